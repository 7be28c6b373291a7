/- Plain laws: bytes,pieces,edges of a text;no function of the program. -/
import Derived.Test.YtoojiikgbopeiaaGreatDoorMdu6
import Derived.Test.YtoojiikgbopeiaaGreatDoorMdu4
import Derived.Lib.IndexBytes
import Derived.Lib.IndexLaws
import Derived.Lib.CountLaws
import Derived.Lib.Split
import Derived.Lib.SplitLaws
import Derived.Lib.TrimByte
import Derived.Lib.Join
set_option linter.unusedVariables false
set_option linter.unusedSimpArgs false
set_option maxRecDepth 100000
section
namespace Go.Proofs.YtoojiikgbopeiaaGreatDoor
open Go.Gx
def Z93.F (a0:Int):Option (Int):=(Z122.F a0).bind λr1=>some r1
def Z93.C:Cal->Option CArm:=λc=>match c with
 |.f 121=>some (.p [(.int .u64)] _ (λx=>Z122.F x.1) (λr=>(.t (.int .i64) r)))
 |_=>none
theorem Z93.run (a0:Int):Qm Q0 (Q8 Z93.C) (Q6 8 0 (λ_=>none)) Tryz.f73 [.t (.int .u64) a0] (Q5 (.t (.int .i64)))=Z93.F a0:=by kernel_rfl
theorem Z93.G (hE:EnvOk Tryz.prog Q0)(pv:Nat->Value):∀cal A,Z93.C cal=some A->Qc Tryz.prog Q0 pv cal A:=by
 intro cal A h
 unfold Z93.C at h
 split at h
 ·cases h;exact λx y hy=>Z122.good hE pv x.1 hy
 ·cases h
theorem Z93.good (hE:EnvOk Tryz.prog Q0)(pv:Nat->Value)(a0:Int){y:_}(h:Z93.F a0=some y):Qd Tryz.prog Q0 pv (.f 73) (Q7 [(.int .u64)] (a0,())) (.t (.int .i64) y):=
 Qb hE (Z93.G hE pv) (f:=73) (fn:=Tryz.f73) (by kernel_rfl) rfl (by kernel_rfl) (by kernel_rfl) ((Z93.run a0).trans h) (λr hr=>Q1 hr)
def Z85.F (k:Nat)(a0:List Int):Option (List Int):=(Z93.F (IntKind.wrap .u64 (a0.length:Int))).bind λr1=>(Z55.F k a0 0 (a0.length:Int) r1).bind λr2=>bif Nat.beq (r2).length a0.length then(some r2)else none
def Z85.C (k:Nat):Cal->Option CArm:=λc=>match c with
 |.f 73=>some (.p [(.int .u64)] _ (λx=>Z93.F x.1) (λr=>(.t (.int .i64) r)))
 |.f 72=>some (.m (.fr 3 (.int .i64)) [(.int .i64),(.int .i64),(.int .i64)] _ (λx0 x=>Z55.F k x0 x.1 x.2.1 x.2.2.1) (λr=>.kep (.fr 3 (.int .i64) r) (.tup [])))
 |_=>none
theorem Z85.run (k:Nat)(a0:List Int):YB Q0 (Q8 (Z85.C k)) (Q6 11 0 (λ_=>none)) Tryz.f36 Qg (.fr 3 (.int .i64) a0) [] (Q1e (.fr 3 (.int .i64)))=Z85.F k a0:=by kernel_rfl
theorem Z85.G (hE:EnvOk Tryz.prog Q0)(pv:Nat->Value)(k:Nat):∀cal A,Z85.C k cal=some A->Qc Tryz.prog Q0 pv cal A:=by
 intro cal A h
 unfold Z85.C at h
 split at h
 ·cases h;exact λx y hy=>Z93.good hE pv x.1 hy
 ·cases h;exact⟨_,rfl,λx0 x y hy=>Z55.good hE pv k x0 x.1 x.2.1 x.2.2.1 hy⟩
 ·cases h
theorem Z85.good (hE:EnvOk Tryz.prog Q0)(pv:Nat->Value)(k:Nat)(a0:List Int){y:_}(h:Z85.F k a0=some y):QF Tryz.prog Q0 pv 36 (.fr 3 (.int .i64) a0) (Q7 [] (())) (.kep (.fr 3 (.int .i64) y) (.tup [])):=
 QU hE (Z85.G hE pv k) (f:=36) (fn:=Tryz.f36) (by kernel_rfl) rfl (by kernel_rfl) (.inl rfl) (by kernel_rfl) ((Z85.run k a0).trans h) (λr hr=>Gj hr)
def impl_DuplicateGroups.l4:Nat->Int->Library->(List (List ByteArray))->Int->(List Int)->Int->Int->Int->(List Entry)->Int->Int->Option (Int×Library× (List (List ByteArray))×Int× (List Int)×Int×Int×Int)
 |0,_,_,_,_,_,_,_,_,_,_,_=>none
 |k+1,x1,x2,x6,x7,x8,x9,x26,x27,x39,x40,x41=>bif (decide (x41<x40))then(bif decide (0<=x41)then(bif decide (x41<(x39.length:Int))then((Z84.F k x8 x41).bind λr3=>bif (!r3)then(bif decide (0<=x9)then(bif decide (x9<(x8.length:Int))then(bif decide (0<=(x8.getD ((x9:Int).toNat) 0))then(bif decide ((x8.getD ((x9:Int).toNat) 0)<(x2.entries.length:Int))then((Z70.F k (x2.entries.getD ((x8.getD ((x9:Int).toNat) 0):Int).toNat (Q4 .entry)) (x39.getD (x41:Int).toNat (Q4 .entry)) x1).bind λr4=>bif r4 then(bif room (x8.length+([x41]:List Int).length) (.int .i64)then(impl_DuplicateGroups.l4 k x1 x2 x6 x7 (x8++([x41]:List Int)) x9 x26 x27 x39 x40 (IntKind.wrap .i64 (x41+1)))else none)else(impl_DuplicateGroups.l4 k x1 x2 x6 x7 x8 x9 x26 x27 x39 x40 (IntKind.wrap .i64 (x41+1))))else none)else none)else none)else none)else(impl_DuplicateGroups.l4 k x1 x2 x6 x7 x8 x9 x26 x27 x39 x40 (IntKind.wrap .i64 (x41+1))))else none)else none)else(some (x1,x2,x6,x7,x8,x9,x26,x27))
def impl_DuplicateGroups.l2:Nat->Int->Library->(List (List ByteArray))->Int->(List Int)->Int->Int->Int->Option (Int×Library× (List (List ByteArray))×Int× (List Int)×Int×Int)
 |0,_,_,_,_,_,_,_,_=>none
 |k+1,x1,x2,x6,x7,x8,x9,x26,x27=>bif (decide (x9<(x8.length:Int)))then((impl_DuplicateGroups.l4 k x1 x2 x6 x7 x8 x9 x26 x27 x2.entries (x2.entries.length:Int) 0).bind λy5=>impl_DuplicateGroups.l2 k y5.1 y5.2.1 y5.2.2.1 y5.2.2.2.1 y5.2.2.2.2.1 (IntKind.wrap .i64 (y5.2.2.2.2.2.1+1)) y5.2.2.2.2.2.2.1 y5.2.2.2.2.2.2.2)else(some (x1,x2,x6,x7,x8,x26,x27))
def impl_DuplicateGroups.l6:Nat->Int->Library->(List (List ByteArray))->(List ByteArray)->Int->Int->(List Int)->Int->Int->Option (Int×Library× (List (List ByteArray))× (List ByteArray)×Int×Int)
 |0,_,_,_,_,_,_,_,_,_=>none
 |k+1,x1,x2,x6,x12,x26,x27,x81,x82,x83=>bif (decide (x83<x82))then(bif decide (0<=x83)then(bif decide (x83<(x81.length:Int))then(bif decide (0<=(x81.getD ((x83:Int).toNat) 0))then(bif decide ((x81.getD ((x83:Int).toNat) 0)<(x2.entries.length:Int))then(bif room (x12.length+([(x2.entries.getD ((x81.getD ((x83:Int).toNat) 0):Int).toNat (Q4 .entry)).key]:List ByteArray).length) .str then(impl_DuplicateGroups.l6 k x1 x2 x6 (x12++([(x2.entries.getD ((x81.getD ((x83:Int).toNat) 0):Int).toNat (Q4 .entry)).key]:List ByteArray)) x26 x27 x81 x82 (IntKind.wrap .i64 (x83+1)))else none)else none)else none)else none)else none)else(some (x1,x2,x6,x12,x26,x27))
def impl_DuplicateGroups.l0:Nat->Int->Library->(List (List ByteArray))->Int->Int->Option ((List (List ByteArray)))
 |0,_,_,_,_,_=>none
 |k+1,x1,x2,x6,x26,x27=>bif (decide (x27<x26))then((impl_DuplicateGroups.l2 k x1 x2 x6 x27 ([x27]:List Int) 0 x26 x27).bind λy6=>(Z85.F k y6.2.2.2.2.1).bind λr7=>bif (decide ((r7.length:Int)<2))then(impl_DuplicateGroups.l0 k y6.1 y6.2.1 y6.2.2.1 y6.2.2.2.2.2.1 (IntKind.wrap .i64 (y6.2.2.2.2.2.2+1)))else(bif decide (0<=0)then(bif decide (0<(r7.length:Int))then(bif ((r7.getD ((0:Int).toNat) 0) != y6.2.2.2.1)then(impl_DuplicateGroups.l0 k y6.1 y6.2.1 y6.2.2.1 y6.2.2.2.2.2.1 (IntKind.wrap .i64 (y6.2.2.2.2.2.2+1)))else((impl_DuplicateGroups.l6 k y6.1 y6.2.1 y6.2.2.1 ([]:List ByteArray) y6.2.2.2.2.2.1 y6.2.2.2.2.2.2 r7 (r7.length:Int) 0).bind λy8=>bif room (y8.2.2.1.length+([y8.2.2.2.1]:List (List ByteArray)).length) (.sl .str)then(impl_DuplicateGroups.l0 k y8.1 y8.2.1 (y8.2.2.1++([y8.2.2.2.1]:List (List ByteArray))) y8.2.2.2.2.1 (IntKind.wrap .i64 (y8.2.2.2.2.2+1)))else none))else none)else none))else(some x6)
def impl_DuplicateGroups.C (k:Nat):Cal->Option CArm:=λc=>match c with
 |.f 32=>some (.p [.lib] _ (λx=>Z14.F k x.1) (λr=>(.t .bool r)))
 |.f 33=>some (.p [(.int .i64),(.int .i64),(.int .i64)] _ (λx=>Z52.F x.1 x.2.1 x.2.2.1) (λr=>(.t .bool r)))
 |.f 34=>some (.p [(.sl (.int .i64)),(.int .i64)] _ (λx=>Z84.F k x.1 x.2.1) (λr=>(.t .bool r)))
 |.f 35=>some (.p [.entry,.entry,(.int .i64)] _ (λx=>Z70.F k x.1 x.2.1 x.2.2.1) (λr=>(.t .bool r)))
 |.f 36=>some (.m (.fr 3 (.int .i64)) [] _ (λx0 x=>Z85.F k x0) (λr=>.kep (.fr 3 (.int .i64) r) (.tup [])))
 |_=>none
def impl_DuplicateGroups.sp4:List Sp:=[.t 1 (.int .i64),.boxT 2 0 .lib,.own 6 3072 65 (.sl .str) false true,.t 7 (.int .i64),.own 8 7172 3 (.int .i64) false true,.t 9 (.int .i64),.t 26 (.int .i64),.t 27 (.int .i64),.t 39 (.sl .entry),.t 40 (.int .i64),.t 41 (.int .i64)]
def impl_DuplicateGroups.sp4_0:List Sp:=[.t 1 (.int .i64),.boxT 2 0 .lib,.own 6 3072 65 (.sl .str) false true,.t 7 (.int .i64),.own 8 7172 3 (.int .i64) false true,.t 9 (.int .i64),.t 26 (.int .i64),.t 27 (.int .i64)]
def impl_DuplicateGroups.A4:LArm:=.one impl_DuplicateGroups.sp4 impl_DuplicateGroups.sp4_0 (Int×Library× (List (List ByteArray))×Int× (List Int)×Int×Int×Int) (λk x=>impl_DuplicateGroups.l4 k x.1 x.2.1 x.2.2.1 x.2.2.2.1 x.2.2.2.2.1 x.2.2.2.2.2.1 x.2.2.2.2.2.2.1 x.2.2.2.2.2.2.2.1 x.2.2.2.2.2.2.2.2.1 x.2.2.2.2.2.2.2.2.2.1 x.2.2.2.2.2.2.2.2.2.2.1) (.exit 4) (λy=>(y.1,y.2.1,y.2.2.1,y.2.2.2.1,y.2.2.2.2.1,y.2.2.2.2.2.1,y.2.2.2.2.2.2.1,y.2.2.2.2.2.2.2,())) (λx=>(x.1,x.2.1,x.2.2.1,x.2.2.2.1,x.2.2.2.2.1,x.2.2.2.2.2.1,x.2.2.2.2.2.2.1,x.2.2.2.2.2.2.2.1))
def impl_DuplicateGroups.sp2:List Sp:=[.t 1 (.int .i64),.boxT 2 0 .lib,.own 6 3072 65 (.sl .str) false true,.t 7 (.int .i64),.own 8 7172 3 (.int .i64) false true,.t 9 (.int .i64),.t 26 (.int .i64),.t 27 (.int .i64)]
def impl_DuplicateGroups.sp2_0:List Sp:=[.t 1 (.int .i64),.boxT 2 0 .lib,.own 6 3072 65 (.sl .str) false true,.t 7 (.int .i64),.own 8 7172 3 (.int .i64) false true,.t 26 (.int .i64),.t 27 (.int .i64)]
def impl_DuplicateGroups.A2:LArm:=.one impl_DuplicateGroups.sp2 impl_DuplicateGroups.sp2_0 (Int×Library× (List (List ByteArray))×Int× (List Int)×Int×Int) (λk x=>impl_DuplicateGroups.l2 k x.1 x.2.1 x.2.2.1 x.2.2.2.1 x.2.2.2.2.1 x.2.2.2.2.2.1 x.2.2.2.2.2.2.1 x.2.2.2.2.2.2.2.1) (.exit 2) (λy=>(y.1,y.2.1,y.2.2.1,y.2.2.2.1,y.2.2.2.2.1,y.2.2.2.2.2.1,y.2.2.2.2.2.2,())) (λx=>(x.1,x.2.1,x.2.2.1,x.2.2.2.1,x.2.2.2.2.1,x.2.2.2.2.2.1,x.2.2.2.2.2.2.1))
def impl_DuplicateGroups.sp6:List Sp:=[.t 1 (.int .i64),.boxT 2 0 .lib,.own 6 3072 65 (.sl .str) false true,.own 12 19456 9 .str false true,.t 26 (.int .i64),.t 27 (.int .i64),.own 81 7172 3 (.int .i64) false true,.t 82 (.int .i64),.t 83 (.int .i64)]
def impl_DuplicateGroups.sp6_0:List Sp:=[.t 1 (.int .i64),.boxT 2 0 .lib,.own 6 3072 65 (.sl .str) false true,.own 12 19456 9 .str false true,.t 26 (.int .i64),.t 27 (.int .i64)]
def impl_DuplicateGroups.A6:LArm:=.one impl_DuplicateGroups.sp6 impl_DuplicateGroups.sp6_0 (Int×Library× (List (List ByteArray))× (List ByteArray)×Int×Int) (λk x=>impl_DuplicateGroups.l6 k x.1 x.2.1 x.2.2.1 x.2.2.2.1 x.2.2.2.2.1 x.2.2.2.2.2.1 x.2.2.2.2.2.2.1 x.2.2.2.2.2.2.2.1 x.2.2.2.2.2.2.2.2.1) (.exit 6) (λy=>(y.1,y.2.1,y.2.2.1,y.2.2.2.1,y.2.2.2.2.1,y.2.2.2.2.2,())) (λx=>(x.1,x.2.1,x.2.2.1,x.2.2.2.1,x.2.2.2.2.1,x.2.2.2.2.2.1))
def impl_DuplicateGroups.sp0:List Sp:=[.t 1 (.int .i64),.boxT 2 0 .lib,.own 6 3072 65 (.sl .str) false true,.t 26 (.int .i64),.t 27 (.int .i64)]
def impl_DuplicateGroups.sp0_0:List Sp:=[.own 6 3072 65 (.sl .str) false true]
def impl_DuplicateGroups.A0:LArm:=.one impl_DuplicateGroups.sp0 impl_DuplicateGroups.sp0_0 ((List (List ByteArray))) (λk x=>impl_DuplicateGroups.l0 k x.1 x.2.1 x.2.2.1 x.2.2.2.1 x.2.2.2.2.1) (.exit 0) (λy=>(y,())) (λx=>x.1)
def impl_DuplicateGroups.L:Nat->Option LArm:=λb=>match b with
 |4=>some impl_DuplicateGroups.A4
 |2=>some impl_DuplicateGroups.A2
 |6=>some impl_DuplicateGroups.A6
 |0=>some impl_DuplicateGroups.A0
 |_=>none
def Z119.l0:Nat->(List ByteArray)->(List ByteArray)->Int->Option (Sum Bool Unit)
 |0,_,_,_=>none
 |k+1,x0,x1,x5=>bif (decide (x5<(x0.length:Int)))then(bif decide (0<=x5)then(bif decide (x5<(x0.length:Int))then(bif decide (0<=x5)then(bif decide (x5<(x1.length:Int))then(bif (!Qr (x0.getD (x5:Int).toNat (⟨#[]⟩:ByteArray)) (x1.getD (x5:Int).toNat (⟨#[]⟩:ByteArray)))then(some (.inl false))else(Z119.l0 k x0 x1 (IntKind.wrap .i64 (x5+1))))else none)else none)else none)else none)else(some (.inr ()))
def Z119.F (k:Nat)(a0:List ByteArray)(a1:List ByteArray):Option (Bool):=bif ((a0.length:Int) != (a1.length:Int))then(some false)else((Z119.l0 k a0 a1 0).bind λy1=>match y1 with|.inl z2=>some z2|.inr z2=>some true)
def Z119.C (k:Nat):Cal->Option CArm:=λc=>match c with
 |_=>none
def Z119.sp0:List Sp:=[.t 0 (.sl .str),.t 1 (.sl .str),.t 5 (.int .i64)]
def Z119.sp0_0:List Sp:=[.t 4 .bool]
def Z119.sp0_1:List Sp:=[]
def Z119.A0:LArm:=.two Z119.sp0 Z119.sp0_0 Z119.sp0_1 (Bool) (Unit) (λk x=>Z119.l0 k x.1 x.2.1 x.2.2.1) .ret (.exit 0) (λy=>(y,())) (λx=>x.1) (λy=>()) (λx=>())
def Z119.L:Nat->Option LArm:=λb=>match b with
 |0=>some Z119.A0
 |_=>none
def Z129.F (k:Nat)(a0:Name)(a1:Name):Option (Bool):=(Z119.F k a0.given a1.given).bind λr1=>bif (!r1)then(some false)else(bif (!Qr a0.particle a1.particle)then(some false)else(bif (!Qr a0.family a1.family)then(some false)else(bif (!Qr a0.suffix a1.suffix)then(some false)else(some true))))
def laws_eqNameS.l0:Nat->(List Name)->(List Name)->Int->Option (Sum Bool Unit)
 |0,_,_,_=>none
 |k+1,x0,x1,x5=>bif (decide (x5<(x0.length:Int)))then(bif decide (0<=x5)then(bif decide (x5<(x0.length:Int))then(bif decide (0<=x5)then(bif decide (x5<(x1.length:Int))then((Z129.F k (x0.getD (x5:Int).toNat (Q4 .name)) (x1.getD (x5:Int).toNat (Q4 .name))).bind λr1=>bif (!r1)then(some (.inl false))else(laws_eqNameS.l0 k x0 x1 (IntKind.wrap .i64 (x5+1))))else none)else none)else none)else none)else(some (.inr ()))
def laws_markText.l0:Nat->Int->ByteArray->Option (ByteArray)
 |0,_,_=>none
 |k+1,x0,x3=>bif (decide (x0 > 0))then(bif (10==0)then(none)else(bif Nat.ble ((QY ([(IntKind.wrap .u8 (IntKind.wrap .i64 (48+(Int.tmod x0 10))))]:List Int)).size+x3.size) 9223372036854775807 then(bif (10==0)then(none)else(laws_markText.l0 k (IntKind.wrap .i64 (Int.tdiv x0 10)) ((QY ([(IntKind.wrap .u8 (IntKind.wrap .i64 (48+(Int.tmod x0 10))))]:List Int))++x3)))else none))else(some x3)
def Z1.l4:Nat->Int->Library->(List (List ByteArray))->Int->(List Int)->Int->Int->Int->(List Entry)->Int->Int->Option (Int×Library× (List (List ByteArray))×Int× (List Int)×Int×Int×Int)
 |0,_,_,_,_,_,_,_,_,_,_,_=>none
 |k+1,x1,x2,x6,x7,x8,x9,x26,x27,x39,x40,x41=>bif (decide (x41<x40))then(bif decide (0<=x41)then(bif decide (x41<(x39.length:Int))then((Z84.F k x8 x41).bind λr3=>bif (!r3)then(bif decide (0<=x9)then(bif decide (x9<(x8.length:Int))then(bif decide (0<=(x8.getD ((x9:Int).toNat) 0))then(bif decide ((x8.getD ((x9:Int).toNat) 0)<(x2.entries.length:Int))then((Z70.F k (x2.entries.getD ((x8.getD ((x9:Int).toNat) 0):Int).toNat (Q4 .entry)) (x39.getD (x41:Int).toNat (Q4 .entry)) x1).bind λr4=>bif r4 then(bif room (x8.length+([x41]:List Int).length) (.int .i64)then(Z1.l4 k x1 x2 x6 x7 (x8++([x41]:List Int)) x9 x26 x27 x39 x40 (IntKind.wrap .i64 (x41+1)))else none)else(Z1.l4 k x1 x2 x6 x7 x8 x9 x26 x27 x39 x40 (IntKind.wrap .i64 (x41+1))))else none)else none)else none)else none)else(Z1.l4 k x1 x2 x6 x7 x8 x9 x26 x27 x39 x40 (IntKind.wrap .i64 (x41+1))))else none)else none)else(some (x1,x2,x6,x7,x8,x9,x26,x27))
def Z1.l2:Nat->Int->Library->(List (List ByteArray))->Int->(List Int)->Int->Int->Int->Option (Int×Library× (List (List ByteArray))×Int× (List Int)×Int×Int)
 |0,_,_,_,_,_,_,_,_=>none
 |k+1,x1,x2,x6,x7,x8,x9,x26,x27=>bif (decide (x9<(x8.length:Int)))then((Z1.l4 k x1 x2 x6 x7 x8 x9 x26 x27 x2.entries (x2.entries.length:Int) 0).bind λy5=>Z1.l2 k y5.1 y5.2.1 y5.2.2.1 y5.2.2.2.1 y5.2.2.2.2.1 (IntKind.wrap .i64 (y5.2.2.2.2.2.1+1)) y5.2.2.2.2.2.2.1 y5.2.2.2.2.2.2.2)else(some (x1,x2,x6,x7,x8,x26,x27))
def Z1.l6:Nat->Int->Library->(List (List ByteArray))->(List ByteArray)->Int->Int->(List Int)->Int->Int->Option (Int×Library× (List (List ByteArray))× (List ByteArray)×Int×Int)
 |0,_,_,_,_,_,_,_,_,_=>none
 |k+1,x1,x2,x6,x12,x26,x27,x81,x82,x83=>bif (decide (x83<x82))then(bif decide (0<=x83)then(bif decide (x83<(x81.length:Int))then(bif decide (0<=(x81.getD ((x83:Int).toNat) 0))then(bif decide ((x81.getD ((x83:Int).toNat) 0)<(x2.entries.length:Int))then(bif room (x12.length+([(x2.entries.getD ((x81.getD ((x83:Int).toNat) 0):Int).toNat (Q4 .entry)).key]:List ByteArray).length) .str then(Z1.l6 k x1 x2 x6 (x12++([(x2.entries.getD ((x81.getD ((x83:Int).toNat) 0):Int).toNat (Q4 .entry)).key]:List ByteArray)) x26 x27 x81 x82 (IntKind.wrap .i64 (x83+1)))else none)else none)else none)else none)else none)else(some (x1,x2,x6,x12,x26,x27))
def Z1.l0:Nat->Int->Library->(List (List ByteArray))->Int->Int->Option ((List (List ByteArray)))
 |0,_,_,_,_,_=>none
 |k+1,x1,x2,x6,x26,x27=>bif (decide (x27<x26))then((Z1.l2 k x1 x2 x6 x27 ([x27]:List Int) 0 x26 x27).bind λy6=>(Z85.F k y6.2.2.2.2.1).bind λr7=>bif (decide ((r7.length:Int)<2))then(Z1.l0 k y6.1 y6.2.1 y6.2.2.1 y6.2.2.2.2.2.1 (IntKind.wrap .i64 (y6.2.2.2.2.2.2+1)))else(bif decide (0<=0)then(bif decide (0<(r7.length:Int))then(bif ((r7.getD ((0:Int).toNat) 0) != y6.2.2.2.1)then(Z1.l0 k y6.1 y6.2.1 y6.2.2.1 y6.2.2.2.2.2.1 (IntKind.wrap .i64 (y6.2.2.2.2.2.2+1)))else((Z1.l6 k y6.1 y6.2.1 y6.2.2.1 ([]:List ByteArray) y6.2.2.2.2.2.1 y6.2.2.2.2.2.2 r7 (r7.length:Int) 0).bind λy8=>bif room (y8.2.2.1.length+([y8.2.2.2.1]:List (List ByteArray)).length) (.sl .str)then(Z1.l0 k y8.1 y8.2.1 (y8.2.2.1++([y8.2.2.2.1]:List (List ByteArray))) y8.2.2.2.2.1 (IntKind.wrap .i64 (y8.2.2.2.2.2+1)))else none))else none)else none))else(some x6)
def Z1.F (k:Nat)(a0:Library)(a1:Int):Option ((List (List ByteArray))×Bool):=(Z14.F k a0).bind λr1=>bif (!r1)then(some ([],false))else((Z52.F a1 0 40).bind λr2=>bif (!r2)then(some ([],false))else((Z1.l0 k a1 a0 ([]:List (List ByteArray)) (a0.entries.length:Int) 0).bind λy9=>some (y9,true)))
def Z1.C (k:Nat):Cal->Option CArm:=λc=>match c with
 |.f 32=>some (.p [.lib] _ (λx=>Z14.F k x.1) (λr=>(.t .bool r)))
 |.f 33=>some (.p [(.int .i64),(.int .i64),(.int .i64)] _ (λx=>Z52.F x.1 x.2.1 x.2.2.1) (λr=>(.t .bool r)))
 |.f 34=>some (.p [(.sl (.int .i64)),(.int .i64)] _ (λx=>Z84.F k x.1 x.2.1) (λr=>(.t .bool r)))
 |.f 35=>some (.p [.entry,.entry,(.int .i64)] _ (λx=>Z70.F k x.1 x.2.1 x.2.2.1) (λr=>(.t .bool r)))
 |.f 36=>some (.m (.fr 3 (.int .i64)) [] _ (λx0 x=>Z85.F k x0) (λr=>.kep (.fr 3 (.int .i64) r) (.tup [])))
 |_=>none
def Z1.sp4:List Sp:=[.t 1 (.int .i64),.boxT 2 0 .lib,.tv 6 3072 65 (.sl (.sl .str)) true,.t 7 (.int .i64),.own 8 7172 3 (.int .i64) false true,.t 9 (.int .i64),.t 26 (.int .i64),.t 27 (.int .i64),.t 39 (.sl .entry),.t 40 (.int .i64),.t 41 (.int .i64)]
def Z1.sp4_0:List Sp:=[.t 1 (.int .i64),.boxT 2 0 .lib,.tv 6 3072 65 (.sl (.sl .str)) true,.t 7 (.int .i64),.own 8 7172 3 (.int .i64) false true,.t 9 (.int .i64),.t 26 (.int .i64),.t 27 (.int .i64)]
def Z1.A4:LArm:=.one Z1.sp4 Z1.sp4_0 (Int×Library× (List (List ByteArray))×Int× (List Int)×Int×Int×Int) (λk x=>Z1.l4 k x.1 x.2.1 x.2.2.1 x.2.2.2.1 x.2.2.2.2.1 x.2.2.2.2.2.1 x.2.2.2.2.2.2.1 x.2.2.2.2.2.2.2.1 x.2.2.2.2.2.2.2.2.1 x.2.2.2.2.2.2.2.2.2.1 x.2.2.2.2.2.2.2.2.2.2.1) (.exit 4) (λy=>(y.1,y.2.1,y.2.2.1,y.2.2.2.1,y.2.2.2.2.1,y.2.2.2.2.2.1,y.2.2.2.2.2.2.1,y.2.2.2.2.2.2.2,())) (λx=>(x.1,x.2.1,x.2.2.1,x.2.2.2.1,x.2.2.2.2.1,x.2.2.2.2.2.1,x.2.2.2.2.2.2.1,x.2.2.2.2.2.2.2.1))
def Z1.sp2:List Sp:=[.t 1 (.int .i64),.boxT 2 0 .lib,.tv 6 3072 65 (.sl (.sl .str)) true,.t 7 (.int .i64),.own 8 7172 3 (.int .i64) false true,.t 9 (.int .i64),.t 26 (.int .i64),.t 27 (.int .i64)]
def Z1.sp2_0:List Sp:=[.t 1 (.int .i64),.boxT 2 0 .lib,.tv 6 3072 65 (.sl (.sl .str)) true,.t 7 (.int .i64),.own 8 7172 3 (.int .i64) false true,.t 26 (.int .i64),.t 27 (.int .i64)]
def Z1.A2:LArm:=.one Z1.sp2 Z1.sp2_0 (Int×Library× (List (List ByteArray))×Int× (List Int)×Int×Int) (λk x=>Z1.l2 k x.1 x.2.1 x.2.2.1 x.2.2.2.1 x.2.2.2.2.1 x.2.2.2.2.2.1 x.2.2.2.2.2.2.1 x.2.2.2.2.2.2.2.1) (.exit 2) (λy=>(y.1,y.2.1,y.2.2.1,y.2.2.2.1,y.2.2.2.2.1,y.2.2.2.2.2.1,y.2.2.2.2.2.2,())) (λx=>(x.1,x.2.1,x.2.2.1,x.2.2.2.1,x.2.2.2.2.1,x.2.2.2.2.2.1,x.2.2.2.2.2.2.1))
def Z1.sp6:List Sp:=[.t 1 (.int .i64),.boxT 2 0 .lib,.tv 6 3072 65 (.sl (.sl .str)) true,.own 12 19456 9 .str false true,.t 26 (.int .i64),.t 27 (.int .i64),.own 81 7172 3 (.int .i64) false true,.t 82 (.int .i64),.t 83 (.int .i64)]
def Z1.sp6_0:List Sp:=[.t 1 (.int .i64),.boxT 2 0 .lib,.tv 6 3072 65 (.sl (.sl .str)) true,.own 12 19456 9 .str false true,.t 26 (.int .i64),.t 27 (.int .i64)]
def Z1.A6:LArm:=.one Z1.sp6 Z1.sp6_0 (Int×Library× (List (List ByteArray))× (List ByteArray)×Int×Int) (λk x=>Z1.l6 k x.1 x.2.1 x.2.2.1 x.2.2.2.1 x.2.2.2.2.1 x.2.2.2.2.2.1 x.2.2.2.2.2.2.1 x.2.2.2.2.2.2.2.1 x.2.2.2.2.2.2.2.2.1) (.exit 6) (λy=>(y.1,y.2.1,y.2.2.1,y.2.2.2.1,y.2.2.2.2.1,y.2.2.2.2.2,())) (λx=>(x.1,x.2.1,x.2.2.1,x.2.2.2.1,x.2.2.2.2.1,x.2.2.2.2.2.1))
def Z1.sp0:List Sp:=[.t 1 (.int .i64),.boxT 2 0 .lib,.tv 6 3072 65 (.sl (.sl .str)) true,.t 26 (.int .i64),.t 27 (.int .i64)]
def Z1.sp0_0:List Sp:=[.tv 6 3072 65 (.sl (.sl .str)) true]
def Z1.A0:LArm:=.one Z1.sp0 Z1.sp0_0 ((List (List ByteArray))) (λk x=>Z1.l0 k x.1 x.2.1 x.2.2.1 x.2.2.2.1 x.2.2.2.2.1) (.exit 0) (λy=>(y,())) (λx=>x.1)
def Z1.L:Nat->Option LArm:=λb=>match b with
 |4=>some Z1.A4
 |2=>some Z1.A2
 |6=>some Z1.A6
 |0=>some Z1.A0
 |_=>none
theorem Z1.run (k:Nat)(a0:Library)(a1:Int):Gx.runT D9 (Q8 (Z1.C k)) (Q6 103 k Z1.L) Tryz.f8 [.t .lib a0,.t (.int .i64) a1] (Q5U (.tr (.sl (.sl .str))) (.t .bool))=Z1.F k a0 a1:=by kernel_rfl
theorem Z1.step4 (k:Nat)(x1:Int)(x2:Library)(x6:List (List ByteArray))(x7:Int)(x8:List Int)(x9:Int)(x26:Int)(x27:Int)(x39:List Entry)(x40:Int)(x41:Int):Qs D9 (Q8 (Z1.C k)) (Q6 103 k Z1.L) 4 (Qh Tryz.f8 4) (QA 103 Z1.sp4 (x1,x2,x6,x7,x8,x9,x26,x27,x39,x40,x41,())) (Z1.A4.cont 103 k)=Z1.l4 (k+1) x1 x2 x6 x7 x8 x9 x26 x27 x39 x40 x41:=by kernel_rfl
theorem Z1.step2 (k:Nat)(x1:Int)(x2:Library)(x6:List (List ByteArray))(x7:Int)(x8:List Int)(x9:Int)(x26:Int)(x27:Int):Qs D9 (Q8 (Z1.C k)) (Q6 103 k Z1.L) 2 (Qh Tryz.f8 2) (QA 103 Z1.sp2 (x1,x2,x6,x7,x8,x9,x26,x27,())) (Z1.A2.cont 103 k)=Z1.l2 (k+1) x1 x2 x6 x7 x8 x9 x26 x27:=by kernel_rfl
theorem Z1.step6 (k:Nat)(x1:Int)(x2:Library)(x6:List (List ByteArray))(x12:List ByteArray)(x26:Int)(x27:Int)(x81:List Int)(x82:Int)(x83:Int):Qs D9 (Q8 (Z1.C k)) (Q6 103 k Z1.L) 6 (Qh Tryz.f8 6) (QA 103 Z1.sp6 (x1,x2,x6,x12,x26,x27,x81,x82,x83,())) (Z1.A6.cont 103 k)=Z1.l6 (k+1) x1 x2 x6 x12 x26 x27 x81 x82 x83:=by kernel_rfl
theorem Z1.step0 (k:Nat)(x1:Int)(x2:Library)(x6:List (List ByteArray))(x26:Int)(x27:Int):Qs D9 (Q8 (Z1.C k)) (Q6 103 k Z1.L) 0 (Qh Tryz.f8 0) (QA 103 Z1.sp0 (x1,x2,x6,x26,x27,())) (Z1.A0.cont 103 k)=Z1.l0 (k+1) x1 x2 x6 x26 x27:=by kernel_rfl
theorem Z1.G (hE:EnvOk Tryz.prog D9)(pv:Nat->Value)(k:Nat):∀cal A,Z1.C k cal=some A->Qc Tryz.prog D9 pv cal A:=by
 intro cal A h
 unfold Z1.C at h
 split at h
 ·cases h;exact λx y hy=>Z14.good Q1j pv k x.1 hy
 ·cases h;exact λx y hy=>Z52.good Q1j pv x.1 x.2.1 x.2.2.1 hy
 ·cases h;exact λx y hy=>Z84.good Q1j pv k x.1 x.2.1 hy
 ·cases h;exact λx y hy=>Z70.good Q1j pv k x.1 x.2.1 x.2.2.1 hy
 ·cases h;exact⟨_,rfl,λx0 x y hy=>Z85.good Q1j pv k x0 hy⟩
 ·cases h
theorem Z1.good (hE:EnvOk Tryz.prog D9)(pv:Nat->Value)(k:Nat)(a0:Library)(a1:Int){y:_}(h:Z1.F k a0 a1=some y):G0 Tryz.prog D9 pv 8 (Q7 [.lib,(.int .i64)] (a0,a1,())) (.tup [.tr (.sl (.sl .str)) y.1,.t .bool y.2]):=
 Q5V hE (t:=Z1.C) k (λk _=>Z1.G hE pv k) (f:=8) (fn:=Tryz.f8) (by kernel_rfl) rfl (by kernel_rfl) (by kernel_rfl) (lt:=Z1.L) (by kernel_rfl) (λb A h=>by
  unfold Z1.L at h;split at h
  ·cases h;exact⟨by kernel_rfl,by kernel_rfl,λ_=>rfl,λ_=>rfl⟩
  ·cases h;exact⟨by kernel_rfl,by kernel_rfl,λ_=>rfl,λ_=>rfl⟩
  ·cases h;exact⟨by kernel_rfl,by kernel_rfl,λ_=>rfl,λ_=>rfl⟩
  ·cases h;exact⟨by kernel_rfl,by kernel_rfl,λ_=>rfl,λ_=>rfl⟩
  ·cases h) (λb A h=>by
  unfold Z1.L at h;split at h
  ·cases h;exact λk x=>Z1.step4 k x.1 x.2.1 x.2.2.1 x.2.2.2.1 x.2.2.2.2.1 x.2.2.2.2.2.1 x.2.2.2.2.2.2.1 x.2.2.2.2.2.2.2.1 x.2.2.2.2.2.2.2.2.1 x.2.2.2.2.2.2.2.2.2.1 x.2.2.2.2.2.2.2.2.2.2.1
  ·cases h;exact λk x=>Z1.step2 k x.1 x.2.1 x.2.2.1 x.2.2.2.1 x.2.2.2.2.1 x.2.2.2.2.2.1 x.2.2.2.2.2.2.1 x.2.2.2.2.2.2.2.1
  ·cases h;exact λk x=>Z1.step6 k x.1 x.2.1 x.2.2.1 x.2.2.2.1 x.2.2.2.2.1 x.2.2.2.2.2.1 x.2.2.2.2.2.2.1 x.2.2.2.2.2.2.2.1 x.2.2.2.2.2.2.2.2.1
  ·cases h;exact λk x=>Z1.step0 k x.1 x.2.1 x.2.2.1 x.2.2.2.1 x.2.2.2.2.1
  ·cases h) ((Z1.run k a0 a1).trans h) (λr hr=>Q9B (k:=(.tr (.sl (.sl .str)))) (l:=(.t .bool)) hr)
def Z120.F (a0:List Int):Option (Bool):=some (decide ((a0.length:Int) > 65536))
def Z120.C:Cal->Option CArm:=λc=>match c with
 |_=>none
theorem Z120.run (a0:List Int):Qm Q0 (Q8 Z120.C) (Q6 6 0 (λ_=>none)) Tryz.f14 [.t (.sl (.int .u8)) a0] (Q5 (.t .bool))=Z120.F a0:=by kernel_rfl
theorem Z120.G (hE:EnvOk Tryz.prog Q0)(pv:Nat->Value):∀cal A,Z120.C cal=some A->Qc Tryz.prog Q0 pv cal A:=by
 intro cal A h
 unfold Z120.C at h
 cases h
theorem Z120.good (hE:EnvOk Tryz.prog Q0)(pv:Nat->Value)(a0:List Int){y:_}(h:Z120.F a0=some y):Qd Tryz.prog Q0 pv (.f 14) (Q7 [(.sl (.int .u8))] (a0,())) (.t .bool y):=
 Qb hE (Z120.G hE pv) (f:=14) (fn:=Tryz.f14) (by kernel_rfl) rfl (by kernel_rfl) (by kernel_rfl) ((Z120.run a0).trans h) (λr hr=>Q1 hr)
def Z94.F (a0:Cur):Option (Cur×Int):=bif (decide (a0.at_<(a0.code.length:Int)))then(bif decide (0<=a0.at_)then(bif decide (a0.at_<(a0.code.length:Int))then(bif (decide ((IntKind.wrap .i64 (a0.at_+1))<=(a0.code.length:Int)))then(some ((⟨a0.code,(IntKind.wrap .i64 (a0.at_+1)),(IntKind.wrap .u64 ((IntKind.wrap .u64 ((IntKind.wrap .u64 (a0.seed*6364136223846793005))+(IntKind.wrap .u64 (IntKind.wrap .i64 (a0.code.getD (a0.at_:Int).toNat 0)))))+896896))⟩:Cur),(IntKind.wrap .i64 (a0.code.getD (a0.at_:Int).toNat 0))))else(bif decide (0<=40)then(some ((⟨a0.code,(IntKind.wrap .i64 (a0.at_+1)),(IntKind.wrap .u64 ((IntKind.wrap .u64 ((IntKind.wrap .u64 (a0.seed*6364136223846793005))+(IntKind.wrap .u64 (IntKind.wrap .i64 (a0.code.getD (a0.at_:Int).toNat 0)))))+896896))⟩:Cur),(IntKind.wrap .i64 (IntKind.wrap .u64 ((BitVec.ofInt (IntKind.bits .u64) (Int.fdiv (IntKind.wrap .u64 ((IntKind.wrap .u64 ((IntKind.wrap .u64 (a0.seed*6364136223846793005))+(IntKind.wrap .u64 (IntKind.wrap .i64 (a0.code.getD (a0.at_:Int).toNat 0)))))+896896)) (2 ^ min (40:Int).toNat (IntKind.bits .u64)))&&& BitVec.ofInt (IntKind.bits .u64) 255).toNat:Int)))))else none))else none)else none)else(bif (decide ((IntKind.wrap .i64 (a0.at_+1))<=(a0.code.length:Int)))then(some ((⟨a0.code,(IntKind.wrap .i64 (a0.at_+1)),(IntKind.wrap .u64 ((IntKind.wrap .u64 ((IntKind.wrap .u64 (a0.seed*6364136223846793005))+(IntKind.wrap .u64 0)))+896896))⟩:Cur),0))else(bif decide (0<=40)then(some ((⟨a0.code,(IntKind.wrap .i64 (a0.at_+1)),(IntKind.wrap .u64 ((IntKind.wrap .u64 ((IntKind.wrap .u64 (a0.seed*6364136223846793005))+(IntKind.wrap .u64 0)))+896896))⟩:Cur),(IntKind.wrap .i64 (IntKind.wrap .u64 ((BitVec.ofInt (IntKind.bits .u64) (Int.fdiv (IntKind.wrap .u64 ((IntKind.wrap .u64 ((IntKind.wrap .u64 (a0.seed*6364136223846793005))+(IntKind.wrap .u64 0)))+896896)) (2 ^ min (40:Int).toNat (IntKind.bits .u64)))&&& BitVec.ofInt (IntKind.bits .u64) 255).toNat:Int)))))else none))
def Z94.C:Cal->Option CArm:=λc=>match c with
 |_=>none
theorem Z94.run (a0:Cur):YB Q0 (Q8 Z94.C) (Q6 62 0 (λ_=>none)) Tryz.f78 Qg (.bx .cur a0) [] (Yn (.bx .cur) (Q5 (.t (.int .i64))))=Z94.F a0:=by kernel_rfl
theorem Z94.G (hE:EnvOk Tryz.prog Q0)(pv:Nat->Value):∀cal A,Z94.C cal=some A->Qc Tryz.prog Q0 pv cal A:=by
 intro cal A h
 unfold Z94.C at h
 cases h
theorem Z94.good (hE:EnvOk Tryz.prog Q0)(pv:Nat->Value)(a0:Cur){y:_}(h:Z94.F a0=some y):QF Tryz.prog Q0 pv 78 (.bx .cur a0) (Q7 [] (())) (.kep (.bx .cur y.1) (.t (.int .i64) y.2)):=
 QU hE (Z94.G hE pv) (f:=78) (fn:=Tryz.f78) (by kernel_rfl) rfl (by kernel_rfl) (.inl rfl) (by kernel_rfl) ((Z94.run a0).trans h) (λr hr=>J1 (λr y h=>Q1 h) hr)
def Z5.F (a0:Cur)(a1:Int):Option (Cur×Int):=bif (decide (a1<=1))then(some (a0,0))else((Z94.F a0).bind λr1=>bif (decide (a1 > 200))then((Z94.F r1.1).bind λr2=>bif (a1==0)then(none)else(some (r2.1,(Int.tmod (IntKind.wrap .i64 ((IntKind.wrap .i64 (r1.2*256))+r2.2)) a1))))else(bif (a1==0)then(none)else(some (r1.1,(Int.tmod r1.2 a1)))))
def Z5.C:Cal->Option CArm:=λc=>match c with
 |.f 78=>some (.m (.bx .cur) [] _ (λx0 x=>Z94.F x0) (λr=>.kep (.bx .cur r.1) (.t (.int .i64) r.2)))
 |_=>none
theorem Z5.run (a0:Cur)(a1:Int):YB Q0 (Q8 Z5.C) (Q6 20 0 (λ_=>none)) Tryz.f44 Qg (.bx .cur a0) [.t (.int .i64) a1] (Yn (.bx .cur) (Q5 (.t (.int .i64))))=Z5.F a0 a1:=by kernel_rfl
theorem Z5.G (hE:EnvOk Tryz.prog Q0)(pv:Nat->Value):∀cal A,Z5.C cal=some A->Qc Tryz.prog Q0 pv cal A:=by
 intro cal A h
 unfold Z5.C at h
 split at h
 ·cases h;exact⟨_,rfl,λx0 x y hy=>Z94.good hE pv x0 hy⟩
 ·cases h
theorem Z5.good (hE:EnvOk Tryz.prog Q0)(pv:Nat->Value)(a0:Cur)(a1:Int){y:_}(h:Z5.F a0 a1=some y):QF Tryz.prog Q0 pv 44 (.bx .cur a0) (Q7 [(.int .i64)] (a1,())) (.kep (.bx .cur y.1) (.t (.int .i64) y.2)):=
 QU hE (Z5.G hE pv) (f:=44) (fn:=Tryz.f44) (by kernel_rfl) rfl (by kernel_rfl) (.inl rfl) (by kernel_rfl) ((Z5.run a0 a1).trans h) (λr hr=>J1 (λr y h=>Q1 h) hr)
def Z57.F (a0:Cur)(a1:List Int):Option (Cur×Int):=(Z5.F a0 (a1.length:Int)).bind λr1=>bif decide (0<=r1.2)then(bif decide (r1.2<(a1.length:Int))then(some (r1.1,(a1.getD (r1.2:Int).toNat 0)))else none)else none
def Z57.C:Cal->Option CArm:=λc=>match c with
 |.f 44=>some (.m (.bx .cur) [(.int .i64)] _ (λx0 x=>Z5.F x0 x.1) (λr=>.kep (.bx .cur r.1) (.t (.int .i64) r.2)))
 |_=>none
theorem Z57.run (a0:Cur)(a1:List Int):YB Q0 (Q8 Z57.C) (Q6 12 0 (λ_=>none)) Tryz.f43 Qg (.bx .cur a0) [.t (.sl (.int .i64)) a1] (Yn (.bx .cur) (Q5 (.t (.int .i64))))=Z57.F a0 a1:=by kernel_rfl
theorem Z57.G (hE:EnvOk Tryz.prog Q0)(pv:Nat->Value):∀cal A,Z57.C cal=some A->Qc Tryz.prog Q0 pv cal A:=by
 intro cal A h
 unfold Z57.C at h
 split at h
 ·cases h;exact⟨_,rfl,λx0 x y hy=>Z5.good hE pv x0 x.1 hy⟩
 ·cases h
theorem Z57.good (hE:EnvOk Tryz.prog Q0)(pv:Nat->Value)(a0:Cur)(a1:List Int){y:_}(h:Z57.F a0 a1=some y):QF Tryz.prog Q0 pv 43 (.bx .cur a0) (Q7 [(.sl (.int .i64))] (a1,())) (.kep (.bx .cur y.1) (.t (.int .i64) y.2)):=
 QU hE (Z57.G hE pv) (f:=43) (fn:=Tryz.f43) (by kernel_rfl) rfl (by kernel_rfl) (.inl rfl) (by kernel_rfl) ((Z57.run a0 a1).trans h) (λr hr=>J1 (λr y h=>Q1 h) hr)
def Z11.F (a0:Cur)(a1:List ByteArray):Option (Cur×ByteArray):=(Z5.F a0 (a1.length:Int)).bind λr1=>bif decide (0<=r1.2)then(bif decide (r1.2<(a1.length:Int))then(some (r1.1,(a1.getD (r1.2:Int).toNat (⟨#[]⟩:ByteArray))))else none)else none
def Z11.C:Cal->Option CArm:=λc=>match c with
 |.f 44=>some (.m (.bx .cur) [(.int .i64)] _ (λx0 x=>Z5.F x0 x.1) (λr=>.kep (.bx .cur r.1) (.t (.int .i64) r.2)))
 |_=>none
theorem Z11.run (a0:Cur)(a1:List ByteArray):YB Q0 (Q8 Z11.C) (Q6 12 0 (λ_=>none)) Tryz.f77 Qg (.bx .cur a0) [.t (.sl .str) a1] (Yn (.bx .cur) (Q5 (.t .str)))=Z11.F a0 a1:=by kernel_rfl
theorem Z11.G (hE:EnvOk Tryz.prog Q0)(pv:Nat->Value):∀cal A,Z11.C cal=some A->Qc Tryz.prog Q0 pv cal A:=by
 intro cal A h
 unfold Z11.C at h
 split at h
 ·cases h;exact⟨_,rfl,λx0 x y hy=>Z5.good hE pv x0 x.1 hy⟩
 ·cases h
theorem Z11.good (hE:EnvOk Tryz.prog Q0)(pv:Nat->Value)(a0:Cur)(a1:List ByteArray){y:_}(h:Z11.F a0 a1=some y):QF Tryz.prog Q0 pv 77 (.bx .cur a0) (Q7 [(.sl .str)] (a1,())) (.kep (.bx .cur y.1) (.t .str y.2)):=
 QU hE (Z11.G hE pv) (f:=77) (fn:=Tryz.f77) (by kernel_rfl) rfl (by kernel_rfl) (.inl rfl) (by kernel_rfl) ((Z11.run a0 a1).trans h) (λr hr=>J1 (λr y h=>Q1 h) hr)
def Z40.F (a0:Cur)(a1:Int):Option (Cur×Bool):=(Z5.F a0 a1).bind λr1=>some (r1.1,(r1.2==0))
def Z40.C:Cal->Option CArm:=λc=>match c with
 |.f 44=>some (.m (.bx .cur) [(.int .i64)] _ (λx0 x=>Z5.F x0 x.1) (λr=>.kep (.bx .cur r.1) (.t (.int .i64) r.2)))
 |_=>none
theorem Z40.run (a0:Cur)(a1:Int):YB Q0 (Q8 Z40.C) (Q6 9 0 (λ_=>none)) Tryz.f49 Qg (.bx .cur a0) [.t (.int .i64) a1] (Yn (.bx .cur) (Q5 (.t .bool)))=Z40.F a0 a1:=by kernel_rfl
theorem Z40.G (hE:EnvOk Tryz.prog Q0)(pv:Nat->Value):∀cal A,Z40.C cal=some A->Qc Tryz.prog Q0 pv cal A:=by
 intro cal A h
 unfold Z40.C at h
 split at h
 ·cases h;exact⟨_,rfl,λx0 x y hy=>Z5.good hE pv x0 x.1 hy⟩
 ·cases h
theorem Z40.good (hE:EnvOk Tryz.prog Q0)(pv:Nat->Value)(a0:Cur)(a1:Int){y:_}(h:Z40.F a0 a1=some y):QF Tryz.prog Q0 pv 49 (.bx .cur a0) (Q7 [(.int .i64)] (a1,())) (.kep (.bx .cur y.1) (.t .bool y.2)):=
 QU hE (Z40.G hE pv) (f:=49) (fn:=Tryz.f49) (by kernel_rfl) rfl (by kernel_rfl) (.inl rfl) (by kernel_rfl) ((Z40.run a0 a1).trans h) (λr hr=>J1 (λr y h=>Q1 h) hr)
def Z69.F (a0:Cur):Option (Cur×Date):=(Z57.F a0 ([1999,2000,1850,987,1900,2024]:List Int)).bind λr1=>(Z5.F r1.1 5).bind λr2=>bif (r2.2==0)then(some (r2.1,(⟨0,0,0,false⟩:Date)))else(bif (r2.2==1)then(some (r2.1,(⟨r1.2,0,0,true⟩:Date)))else(bif (r2.2==2)then((Z5.F r2.1 12).bind λr3=>some (r3.1,(⟨r1.2,(IntKind.wrap .i64 (1+r3.2)),0,false⟩:Date)))else(bif (r2.2==3)then((Z5.F r2.1 12).bind λr4=>(Z5.F r4.1 28).bind λr5=>some (r5.1,(⟨r1.2,(IntKind.wrap .i64 (1+r4.2)),(IntKind.wrap .i64 (1+r5.2)),false⟩:Date)))else(some (r2.1,(⟨r1.2,0,0,false⟩:Date))))))
def Z69.C:Cal->Option CArm:=λc=>match c with
 |.f 43=>some (.m (.bx .cur) [(.sl (.int .i64))] _ (λx0 x=>Z57.F x0 x.1) (λr=>.kep (.bx .cur r.1) (.t (.int .i64) r.2)))
 |.f 44=>some (.m (.bx .cur) [(.int .i64)] _ (λx0 x=>Z5.F x0 x.1) (λr=>.kep (.bx .cur r.1) (.t (.int .i64) r.2)))
 |_=>none
theorem Z69.run (a0:Cur):YB Q0 (Q8 Z69.C) (Q6 33 0 (λ_=>none)) Tryz.f99 Qg (.bx .cur a0) [] (Yn (.bx .cur) (Q5 (.t .date)))=Z69.F a0:=by kernel_rfl
theorem Z69.G (hE:EnvOk Tryz.prog Q0)(pv:Nat->Value):∀cal A,Z69.C cal=some A->Qc Tryz.prog Q0 pv cal A:=by
 intro cal A h
 unfold Z69.C at h
 split at h
 ·cases h;exact⟨_,rfl,λx0 x y hy=>Z57.good hE pv x0 x.1 hy⟩
 ·cases h;exact⟨_,rfl,λx0 x y hy=>Z5.good hE pv x0 x.1 hy⟩
 ·cases h
theorem Z69.good (hE:EnvOk Tryz.prog Q0)(pv:Nat->Value)(a0:Cur){y:_}(h:Z69.F a0=some y):QF Tryz.prog Q0 pv 99 (.bx .cur a0) (Q7 [] (())) (.kep (.bx .cur y.1) (.t .date y.2)):=
 QU hE (Z69.G hE pv) (f:=99) (fn:=Tryz.f99) (by kernel_rfl) rfl (by kernel_rfl) (.inl rfl) (by kernel_rfl) ((Z69.run a0).trans h) (λr hr=>J1 (λr y h=>Q1 h) hr)
def Z25.l0:Nat->Cur->(List ByteArray)->ByteArray->ByteArray->ByteArray->(List ByteArray)->ByteArray->ByteArray->ByteArray->Int->Option (Cur× (List ByteArray)×ByteArray×ByteArray×ByteArray× (List ByteArray)×ByteArray×ByteArray×ByteArray)
 |0,_,_,_,_,_,_,_,_,_,_=>none
 |k+1,x0,x2_0,x2_1,x2_2,x2_3,x3_0,x3_1,x3_2,x3_3,x4=>bif (decide (x4 > 0))then((Z11.F x0 ([(⟨#[65,110,110,97]⟩:ByteArray),(⟨#[65]⟩:ByteArray),(⟨#[74,101,97,110,45,80,97,117,108]⟩:ByteArray),(⟨#[77,97,114,105,97]⟩:ByteArray),(⟨#[66]⟩:ByteArray),(⟨#[66,101,110]⟩:ByteArray),(⟨#[74,101,97,110,45,112,97,117,108]⟩:ByteArray)]:List ByteArray)).bind λr3=>bif room (x3_0.length+([r3.2]:List ByteArray).length) .str then(Z25.l0 k r3.1 x2_0 x2_1 x2_2 x2_3 (x3_0++([r3.2]:List ByteArray)) x3_1 x3_2 x3_3 (IntKind.wrap .i64 (x4-1)))else none)else(some (x0,x2_0,x2_1,x2_2,x2_3,x3_0,x3_1,x3_2,x3_3))
def Z25.F (k:Nat)(a0:Cur):Option (Cur×Name):=bif decide (0<=5)then(bif decide (5<=(([(⟨#[66,101,114,103]⟩:ByteArray),(⟨#[83,109,105,116,104]⟩:ByteArray),(⟨#[79,39,78,101,105,108,108]⟩:ByteArray),(⟨#[76,101,101]⟩:ByteArray),(⟨#[66,101,114,103,45,72,97,108,108]⟩:ByteArray),(⟨#[115,109,105,116,104,115,111,110]⟩:ByteArray)]:List ByteArray).length:Int))then((Z11.F a0 (([(⟨#[66,101,114,103]⟩:ByteArray),(⟨#[83,109,105,116,104]⟩:ByteArray),(⟨#[79,39,78,101,105,108,108]⟩:ByteArray),(⟨#[76,101,101]⟩:ByteArray),(⟨#[66,101,114,103,45,72,97,108,108]⟩:ByteArray),(⟨#[115,109,105,116,104,115,111,110]⟩:ByteArray)]:List ByteArray).take (5:Int).toNat)).bind λr1=>(Z5.F r1.1 3).bind λr2=>(Z25.l0 k r2.1 ([]:List ByteArray) (⟨#[]⟩:ByteArray) (⟨#[]⟩:ByteArray) (⟨#[]⟩:ByteArray) ([]) (⟨#[]⟩:ByteArray) r1.2 (⟨#[]⟩:ByteArray) r2.2).bind λy4=>(Z40.F y4.1 3).bind λr5=>bif r5.2 then((Z11.F r5.1 ([(⟨#[118,97,110]⟩:ByteArray),(⟨#[100,101]⟩:ByteArray),(⟨#[118,97,110,32,100,101,114]⟩:ByteArray)]:List ByteArray)).bind λr6=>(Z40.F r6.1 5).bind λr7=>bif r7.2 then((Z11.F r7.1 ([(⟨#[74,114]⟩:ByteArray),(⟨#[73,73,73]⟩:ByteArray),(⟨#[106,114]⟩:ByteArray)]:List ByteArray)).bind λr8=>some (r8.1,(⟨y4.2.2.2.2.2.1,r6.2,y4.2.2.2.2.2.2.2.1,r8.2⟩:Name)))else(some (r7.1,(⟨y4.2.2.2.2.2.1,r6.2,y4.2.2.2.2.2.2.2.1,y4.2.2.2.2.2.2.2.2⟩:Name))))else((Z40.F r5.1 5).bind λr9=>bif r9.2 then((Z11.F r9.1 ([(⟨#[74,114]⟩:ByteArray),(⟨#[73,73,73]⟩:ByteArray),(⟨#[106,114]⟩:ByteArray)]:List ByteArray)).bind λr10=>some (r10.1,(⟨y4.2.2.2.2.2.1,y4.2.2.2.2.2.2.1,y4.2.2.2.2.2.2.2.1,r10.2⟩:Name)))else(some (r9.1,(⟨y4.2.2.2.2.2.1,y4.2.2.2.2.2.2.1,y4.2.2.2.2.2.2.2.1,y4.2.2.2.2.2.2.2.2⟩:Name)))))else none)else none
def Z25.C (k:Nat):Cal->Option CArm:=λc=>match c with
 |.f 77=>some (.m (.bx .cur) [(.sl .str)] _ (λx0 x=>Z11.F x0 x.1) (λr=>.kep (.bx .cur r.1) (.t .str r.2)))
 |.f 44=>some (.m (.bx .cur) [(.int .i64)] _ (λx0 x=>Z5.F x0 x.1) (λr=>.kep (.bx .cur r.1) (.t (.int .i64) r.2)))
 |.f 49=>some (.m (.bx .cur) [(.int .i64)] _ (λx0 x=>Z40.F x0 x.1) (λr=>.kep (.bx .cur r.1) (.t .bool r.2)))
 |_=>none
def Z25.sp0:List Sp:=[.boxT 0 1099511627776 .cur,.boxF 2 0 .name [.t (.sl .str),.t .str,.t .str,.t .str],.boxF 3 1044 .name [.own 1099511627827 9 .str false true,.t .str,.t .str,.t .str],.t 4 (.int .i64)]
def Z25.sp0_0:List Sp:=[.boxT 0 1099511627776 .cur,.boxF 2 0 .name [.t (.sl .str),.t .str,.t .str,.t .str],.boxF 3 1044 .name [.own 1099511627827 9 .str false true,.t .str,.t .str,.t .str]]
def Z25.A0:LArm:=.one Z25.sp0 Z25.sp0_0 (Cur× (List ByteArray)×ByteArray×ByteArray×ByteArray× (List ByteArray)×ByteArray×ByteArray×ByteArray) (λk x=>Z25.l0 k x.1 x.2.1.1 x.2.1.2.1 x.2.1.2.2.1 x.2.1.2.2.2.1 x.2.2.1.1 x.2.2.1.2.1 x.2.2.1.2.2.1 x.2.2.1.2.2.2.1 x.2.2.2.1) (.exit 0) (λy=>(y.1,(y.2.1,y.2.2.1,y.2.2.2.1,y.2.2.2.2.1,()),(y.2.2.2.2.2.1,y.2.2.2.2.2.2.1,y.2.2.2.2.2.2.2.1,y.2.2.2.2.2.2.2.2,()),())) (λx=>(x.1,x.2.1.1,x.2.1.2.1,x.2.1.2.2.1,x.2.1.2.2.2.1,x.2.2.1.1,x.2.2.1.2.1,x.2.2.1.2.2.1,x.2.2.1.2.2.2.1))
def Z25.L:Nat->Option LArm:=λb=>match b with
 |0=>some Z25.A0
 |_=>none
theorem Z25.run (k:Nat)(a0:Cur):YB Q0 (Q8 (Z25.C k)) (Q6 37 k Z25.L) Tryz.f132 Qg (.bx .cur a0) [] (Yn (.bx .cur) (Q5 (.sf .name 9)))=Z25.F k a0:=by kernel_rfl
theorem Z25.step0 (k:Nat)(x0:Cur)(x2_0:List ByteArray)(x2_1:ByteArray)(x2_2:ByteArray)(x2_3:ByteArray)(x3_0:List ByteArray)(x3_1:ByteArray)(x3_2:ByteArray)(x3_3:ByteArray)(x4:Int):Qs Q0 (Q8 (Z25.C k)) (Q6 37 k Z25.L) 0 (Qh Tryz.f132 0) (QA 37 Z25.sp0 (x0,(x2_0,x2_1,x2_2,x2_3,()),(x3_0,x3_1,x3_2,x3_3,()),x4,())) (Z25.A0.cont 37 k)=Z25.l0 (k+1) x0 x2_0 x2_1 x2_2 x2_3 x3_0 x3_1 x3_2 x3_3 x4:=by kernel_rfl
theorem Z25.G (hE:EnvOk Tryz.prog Q0)(pv:Nat->Value)(k:Nat):∀cal A,Z25.C k cal=some A->Qc Tryz.prog Q0 pv cal A:=by
 intro cal A h
 unfold Z25.C at h
 split at h
 ·cases h;exact⟨_,rfl,λx0 x y hy=>Z11.good hE pv x0 x.1 hy⟩
 ·cases h;exact⟨_,rfl,λx0 x y hy=>Z5.good hE pv x0 x.1 hy⟩
 ·cases h;exact⟨_,rfl,λx0 x y hy=>Z40.good hE pv x0 x.1 hy⟩
 ·cases h
theorem Z25.good (hE:EnvOk Tryz.prog Q0)(pv:Nat->Value)(k:Nat)(a0:Cur){y:_}(h:Z25.F k a0=some y):QF Tryz.prog Q0 pv 132 (.bx .cur a0) (Q7 [] (())) (.kep (.bx .cur y.1) (sfV 9 .name y.2)):=
 JY hE (t:=Z25.C) k (λk _=>Z25.G hE pv k) (f:=132) (fn:=Tryz.f132) (by kernel_rfl) rfl (by kernel_rfl) (.inl rfl) (by kernel_rfl) (lt:=Z25.L) (by kernel_rfl) (λb A h=>by
  unfold Z25.L at h;split at h
  ·cases h;exact⟨by kernel_rfl,by kernel_rfl,λ_=>rfl,λ_=>rfl⟩
  ·cases h) (λb A h=>by
  unfold Z25.L at h;split at h
  ·cases h;exact λk x=>Z25.step0 k x.1 x.2.1.1 x.2.1.2.1 x.2.1.2.2.1 x.2.1.2.2.2.1 x.2.2.1.1 x.2.2.1.2.1 x.2.2.1.2.2.1 x.2.2.1.2.2.2.1 x.2.2.2.1
  ·cases h) ((Z25.run k a0).trans h) (λr hr=>J1 (λr y h=>Q1 h) hr)
def Z20.l0:Nat->Cur->(List Name)->Int->Option (Cur× (List Name))
 |0,_,_,_=>none
 |k+1,x0,x3,x4=>bif (decide (x4 > 0))then((Z25.F k x0).bind λr2=>bif room (x3.length+([(⟨r2.2.given,r2.2.particle,r2.2.family,r2.2.suffix⟩:Name)]:List Name).length) .name then(Z20.l0 k r2.1 (x3++([(⟨r2.2.given,r2.2.particle,r2.2.family,r2.2.suffix⟩:Name)]:List Name)) (IntKind.wrap .i64 (x4-1)))else none)else(some (x0,x3))
def Z20.F (k:Nat)(a0:Cur):Option (Cur×List Name):=(Z5.F a0 4).bind λr1=>(Z20.l0 k r1.1 ([]:List Name) r1.2).bind λy3=>some (y3.1,y3.2)
def Z20.C (k:Nat):Cal->Option CArm:=λc=>match c with
 |.f 44=>some (.m (.bx .cur) [(.int .i64)] _ (λx0 x=>Z5.F x0 x.1) (λr=>.kep (.bx .cur r.1) (.t (.int .i64) r.2)))
 |.f 132=>some (.m (.bx .cur) [] _ (λx0 x=>Z25.F k x0) (λr=>.kep (.bx .cur r.1) (sfV 9 .name r.2)))
 |_=>none
def Z20.sp0:List Sp:=[.boxT 0 1099511627776 .cur,.own 3 1024 89 .name false true,.t 4 (.int .i64)]
def Z20.sp0_0:List Sp:=[.boxT 0 1099511627776 .cur,.own 3 1024 89 .name false true]
def Z20.A0:LArm:=.one Z20.sp0 Z20.sp0_0 (Cur× (List Name)) (λk x=>Z20.l0 k x.1 x.2.1 x.2.2.1) (.exit 0) (λy=>(y.1,y.2,())) (λx=>(x.1,x.2.1))
def Z20.L:Nat->Option LArm:=λb=>match b with
 |0=>some Z20.A0
 |_=>none
theorem Z20.run (k:Nat)(a0:Cur):YB Q0 (Q8 (Z20.C k)) (Q6 18 k Z20.L) Tryz.f100 Qg (.bx .cur a0) [] (Yn (.bx .cur) (Q5 (.fr 89 .name)))=Z20.F k a0:=by kernel_rfl
theorem Z20.step0 (k:Nat)(x0:Cur)(x3:List Name)(x4:Int):Qs Q0 (Q8 (Z20.C k)) (Q6 18 k Z20.L) 0 (Qh Tryz.f100 0) (QA 18 Z20.sp0 (x0,x3,x4,())) (Z20.A0.cont 18 k)=Z20.l0 (k+1) x0 x3 x4:=by kernel_rfl
theorem Z20.G (hE:EnvOk Tryz.prog Q0)(pv:Nat->Value)(k:Nat):∀cal A,Z20.C k cal=some A->Qc Tryz.prog Q0 pv cal A:=by
 intro cal A h
 unfold Z20.C at h
 split at h
 ·cases h;exact⟨_,rfl,λx0 x y hy=>Z5.good hE pv x0 x.1 hy⟩
 ·cases h;exact⟨_,rfl,λx0 x y hy=>Z25.good hE pv k x0 hy⟩
 ·cases h
theorem Z20.good (hE:EnvOk Tryz.prog Q0)(pv:Nat->Value)(k:Nat)(a0:Cur){y:_}(h:Z20.F k a0=some y):QF Tryz.prog Q0 pv 100 (.bx .cur a0) (Q7 [] (())) (.kep (.bx .cur y.1) (.fr 89 .name y.2)):=
 JY hE (t:=Z20.C) k (λk _=>Z20.G hE pv k) (f:=100) (fn:=Tryz.f100) (by kernel_rfl) rfl (by kernel_rfl) (.inl rfl) (by kernel_rfl) (lt:=Z20.L) (by kernel_rfl) (λb A h=>by
  unfold Z20.L at h;split at h
  ·cases h;exact⟨by kernel_rfl,by kernel_rfl,λ_=>rfl,λ_=>rfl⟩
  ·cases h) (λb A h=>by
  unfold Z20.L at h;split at h
  ·cases h;exact λk x=>Z20.step0 k x.1 x.2.1 x.2.2.1
  ·cases h) ((Z20.run k a0).trans h) (λr hr=>J1 (λr y h=>Q1 h) hr)
def Z123.F:Option (List ByteArray):=some ([(⟨#[79,110,32,114,105,118,101,114,115]⟩:ByteArray),(⟨#[65,32,104,105,115,116,111,114,121,32,111,102,32,109,97,112,115]⟩:ByteArray),(⟨#[84,104,101,32,110,111,114,116,104]⟩:ByteArray),(⟨#[79,108,100,32,114,111,97,100,115,58,32,97,32,103,117,105,100,101]⟩:ByteArray),(⟨#[79,110,32,114,105,118,101,114,115]⟩:ByteArray),(⟨#[]⟩:ByteArray)]:List ByteArray)
def Z123.C:Cal->Option CArm:=λc=>match c with
 |_=>none
theorem Z123.run:Qm Q0 (Q8 Z123.C) (Q6 2 0 (λ_=>none)) Tryz.f130 [] (Q5 (.fr 9 .str))=Z123.F:=by kernel_rfl
theorem Z123.G (hE:EnvOk Tryz.prog Q0)(pv:Nat->Value):∀cal A,Z123.C cal=some A->Qc Tryz.prog Q0 pv cal A:=by
 intro cal A h
 unfold Z123.C at h
 cases h
theorem Z123.good (hE:EnvOk Tryz.prog Q0)(pv:Nat->Value){y:_}(h:Z123.F=some y):Qd Tryz.prog Q0 pv (.f 130) (Q7 [] (())) (.fr 9 .str y):=
 Qb hE (Z123.G hE pv) (f:=130) (fn:=Tryz.f130) (by kernel_rfl) rfl (by kernel_rfl) (by kernel_rfl) ((Z123.run).trans h) (λr hr=>Q1 hr)
def Z71.F (k:Nat)(a0:Cur):Option (Cur×Entry):=(Z11.F a0 ([(⟨#[97,49]⟩:ByteArray),(⟨#[98,50]⟩:ByteArray),(⟨#[99,51]⟩:ByteArray),(⟨#[100,52]⟩:ByteArray),(⟨#[101,53]⟩:ByteArray),(⟨#[102,54]⟩:ByteArray)]:List ByteArray)).bind λr1=>(Z5.F r1.1 4).bind λr2=>(Z20.F k r2.1).bind λr3=>(Z123.F).bind λr4=>(Z11.F r3.1 r4).bind λr5=>(Z69.F r5.1).bind λr6=>(Z40.F r6.1 3).bind λr7=>bif r7.2 then((Z20.F k r7.1).bind λr8=>(Z40.F r8.1 3).bind λr9=>bif (!r9.2)then((Z11.F r9.1 ([(⟨#[74,111,117,114,110,97,108,32,111,102,32,77,97,112,115]⟩:ByteArray),(⟨#[65,110,110,97,108,115]⟩:ByteArray),(⟨#[69,115,115,97,121,115,32,111,110,32,108,97,110,100]⟩:ByteArray)]:List ByteArray)).bind λr10=>(Z57.F r10.1 ([0,1,7,12,9999]:List Int)).bind λr11=>(Z11.F r11.1 ([(⟨#[]⟩:ByteArray),(⟨#[49,45,57]⟩:ByteArray),(⟨#[55,55]⟩:ByteArray),(⟨#[49,50,48,45,49,51,53]⟩:ByteArray)]:List ByteArray)).bind λr12=>(Z40.F r12.1 3).bind λr13=>bif (!r13.2)then((Z11.F r13.1 ([(⟨#[78,111,114,116,104,32,80,114,101,115,115]⟩:ByteArray),(⟨#[72,97,108,108]⟩:ByteArray),(⟨#[76,97,110,101,32,38,32,67,111]⟩:ByteArray)]:List ByteArray)).bind λr14=>(Z40.F r14.1 4).bind λr15=>bif r15.2 then((Z11.F r15.1 ([(⟨#[97,48]⟩:ByteArray),(⟨#[98,49]⟩:ByteArray),(⟨#[122,57]⟩:ByteArray)]:List ByteArray)).bind λr16=>some (r16.1,(⟨r1.2,(IntKind.wrap .i64 (1+r2.2)),r3.2,r8.2,r5.2,r10.2,r14.2,r6.2,r11.2,r12.2,r16.2⟩:Entry)))else(some (r15.1,(⟨r1.2,(IntKind.wrap .i64 (1+r2.2)),r3.2,r8.2,r5.2,r10.2,r14.2,r6.2,r11.2,r12.2,(⟨#[]⟩:ByteArray)⟩:Entry))))else((Z40.F r13.1 4).bind λr17=>bif r17.2 then((Z11.F r17.1 ([(⟨#[97,48]⟩:ByteArray),(⟨#[98,49]⟩:ByteArray),(⟨#[122,57]⟩:ByteArray)]:List ByteArray)).bind λr18=>some (r18.1,(⟨r1.2,(IntKind.wrap .i64 (1+r2.2)),r3.2,r8.2,r5.2,r10.2,(⟨#[]⟩:ByteArray),r6.2,r11.2,r12.2,r18.2⟩:Entry)))else(some (r17.1,(⟨r1.2,(IntKind.wrap .i64 (1+r2.2)),r3.2,r8.2,r5.2,r10.2,(⟨#[]⟩:ByteArray),r6.2,r11.2,r12.2,(⟨#[]⟩:ByteArray)⟩:Entry)))))else((Z40.F r9.1 3).bind λr19=>bif (!r19.2)then((Z11.F r19.1 ([(⟨#[78,111,114,116,104,32,80,114,101,115,115]⟩:ByteArray),(⟨#[72,97,108,108]⟩:ByteArray),(⟨#[76,97,110,101,32,38,32,67,111]⟩:ByteArray)]:List ByteArray)).bind λr20=>(Z40.F r20.1 4).bind λr21=>bif r21.2 then((Z11.F r21.1 ([(⟨#[97,48]⟩:ByteArray),(⟨#[98,49]⟩:ByteArray),(⟨#[122,57]⟩:ByteArray)]:List ByteArray)).bind λr22=>some (r22.1,(⟨r1.2,(IntKind.wrap .i64 (1+r2.2)),r3.2,r8.2,r5.2,(⟨#[]⟩:ByteArray),r20.2,r6.2,0,(⟨#[]⟩:ByteArray),r22.2⟩:Entry)))else(some (r21.1,(⟨r1.2,(IntKind.wrap .i64 (1+r2.2)),r3.2,r8.2,r5.2,(⟨#[]⟩:ByteArray),r20.2,r6.2,0,(⟨#[]⟩:ByteArray),(⟨#[]⟩:ByteArray)⟩:Entry))))else((Z40.F r19.1 4).bind λr23=>bif r23.2 then((Z11.F r23.1 ([(⟨#[97,48]⟩:ByteArray),(⟨#[98,49]⟩:ByteArray),(⟨#[122,57]⟩:ByteArray)]:List ByteArray)).bind λr24=>some (r24.1,(⟨r1.2,(IntKind.wrap .i64 (1+r2.2)),r3.2,r8.2,r5.2,(⟨#[]⟩:ByteArray),(⟨#[]⟩:ByteArray),r6.2,0,(⟨#[]⟩:ByteArray),r24.2⟩:Entry)))else(some (r23.1,(⟨r1.2,(IntKind.wrap .i64 (1+r2.2)),r3.2,r8.2,r5.2,(⟨#[]⟩:ByteArray),(⟨#[]⟩:ByteArray),r6.2,0,(⟨#[]⟩:ByteArray),(⟨#[]⟩:ByteArray)⟩:Entry))))))else((Z40.F r7.1 3).bind λr25=>bif (!r25.2)then((Z11.F r25.1 ([(⟨#[74,111,117,114,110,97,108,32,111,102,32,77,97,112,115]⟩:ByteArray),(⟨#[65,110,110,97,108,115]⟩:ByteArray),(⟨#[69,115,115,97,121,115,32,111,110,32,108,97,110,100]⟩:ByteArray)]:List ByteArray)).bind λr26=>(Z57.F r26.1 ([0,1,7,12,9999]:List Int)).bind λr27=>(Z11.F r27.1 ([(⟨#[]⟩:ByteArray),(⟨#[49,45,57]⟩:ByteArray),(⟨#[55,55]⟩:ByteArray),(⟨#[49,50,48,45,49,51,53]⟩:ByteArray)]:List ByteArray)).bind λr28=>(Z40.F r28.1 3).bind λr29=>bif (!r29.2)then((Z11.F r29.1 ([(⟨#[78,111,114,116,104,32,80,114,101,115,115]⟩:ByteArray),(⟨#[72,97,108,108]⟩:ByteArray),(⟨#[76,97,110,101,32,38,32,67,111]⟩:ByteArray)]:List ByteArray)).bind λr30=>(Z40.F r30.1 4).bind λr31=>bif r31.2 then((Z11.F r31.1 ([(⟨#[97,48]⟩:ByteArray),(⟨#[98,49]⟩:ByteArray),(⟨#[122,57]⟩:ByteArray)]:List ByteArray)).bind λr32=>some (r32.1,(⟨r1.2,(IntKind.wrap .i64 (1+r2.2)),r3.2,([]:List Name),r5.2,r26.2,r30.2,r6.2,r27.2,r28.2,r32.2⟩:Entry)))else(some (r31.1,(⟨r1.2,(IntKind.wrap .i64 (1+r2.2)),r3.2,([]:List Name),r5.2,r26.2,r30.2,r6.2,r27.2,r28.2,(⟨#[]⟩:ByteArray)⟩:Entry))))else((Z40.F r29.1 4).bind λr33=>bif r33.2 then((Z11.F r33.1 ([(⟨#[97,48]⟩:ByteArray),(⟨#[98,49]⟩:ByteArray),(⟨#[122,57]⟩:ByteArray)]:List ByteArray)).bind λr34=>some (r34.1,(⟨r1.2,(IntKind.wrap .i64 (1+r2.2)),r3.2,([]:List Name),r5.2,r26.2,(⟨#[]⟩:ByteArray),r6.2,r27.2,r28.2,r34.2⟩:Entry)))else(some (r33.1,(⟨r1.2,(IntKind.wrap .i64 (1+r2.2)),r3.2,([]:List Name),r5.2,r26.2,(⟨#[]⟩:ByteArray),r6.2,r27.2,r28.2,(⟨#[]⟩:ByteArray)⟩:Entry)))))else((Z40.F r25.1 3).bind λr35=>bif (!r35.2)then((Z11.F r35.1 ([(⟨#[78,111,114,116,104,32,80,114,101,115,115]⟩:ByteArray),(⟨#[72,97,108,108]⟩:ByteArray),(⟨#[76,97,110,101,32,38,32,67,111]⟩:ByteArray)]:List ByteArray)).bind λr36=>(Z40.F r36.1 4).bind λr37=>bif r37.2 then((Z11.F r37.1 ([(⟨#[97,48]⟩:ByteArray),(⟨#[98,49]⟩:ByteArray),(⟨#[122,57]⟩:ByteArray)]:List ByteArray)).bind λr38=>some (r38.1,(⟨r1.2,(IntKind.wrap .i64 (1+r2.2)),r3.2,([]:List Name),r5.2,(⟨#[]⟩:ByteArray),r36.2,r6.2,0,(⟨#[]⟩:ByteArray),r38.2⟩:Entry)))else(some (r37.1,(⟨r1.2,(IntKind.wrap .i64 (1+r2.2)),r3.2,([]:List Name),r5.2,(⟨#[]⟩:ByteArray),r36.2,r6.2,0,(⟨#[]⟩:ByteArray),(⟨#[]⟩:ByteArray)⟩:Entry))))else((Z40.F r35.1 4).bind λr39=>bif r39.2 then((Z11.F r39.1 ([(⟨#[97,48]⟩:ByteArray),(⟨#[98,49]⟩:ByteArray),(⟨#[122,57]⟩:ByteArray)]:List ByteArray)).bind λr40=>some (r40.1,(⟨r1.2,(IntKind.wrap .i64 (1+r2.2)),r3.2,([]:List Name),r5.2,(⟨#[]⟩:ByteArray),(⟨#[]⟩:ByteArray),r6.2,0,(⟨#[]⟩:ByteArray),r40.2⟩:Entry)))else(some (r39.1,(⟨r1.2,(IntKind.wrap .i64 (1+r2.2)),r3.2,([]:List Name),r5.2,(⟨#[]⟩:ByteArray),(⟨#[]⟩:ByteArray),r6.2,0,(⟨#[]⟩:ByteArray),(⟨#[]⟩:ByteArray)⟩:Entry))))))
def Z71.C (k:Nat):Cal->Option CArm:=λc=>match c with
 |.f 77=>some (.m (.bx .cur) [(.sl .str)] _ (λx0 x=>Z11.F x0 x.1) (λr=>.kep (.bx .cur r.1) (.t .str r.2)))
 |.f 44=>some (.m (.bx .cur) [(.int .i64)] _ (λx0 x=>Z5.F x0 x.1) (λr=>.kep (.bx .cur r.1) (.t (.int .i64) r.2)))
 |.f 100=>some (.m (.bx .cur) [] _ (λx0 x=>Z20.F k x0) (λr=>.kep (.bx .cur r.1) (.fr 89 .name r.2)))
 |.f 130=>some (.p [] _ (λx=>Z123.F) (λr=>(.fr 9 .str r)))
 |.f 99=>some (.m (.bx .cur) [] _ (λx0 x=>Z69.F x0) (λr=>.kep (.bx .cur r.1) (.t .date r.2)))
 |.f 49=>some (.m (.bx .cur) [(.int .i64)] _ (λx0 x=>Z40.F x0 x.1) (λr=>.kep (.bx .cur r.1) (.t .bool r.2)))
 |.f 43=>some (.m (.bx .cur) [(.sl (.int .i64))] _ (λx0 x=>Z57.F x0 x.1) (λr=>.kep (.bx .cur r.1) (.t (.int .i64) r.2)))
 |_=>none
theorem Z71.run (k:Nat)(a0:Cur):YB Q0 (Q8 (Z71.C k)) (Q6 52 0 (λ_=>none)) Tryz.f84 Qg (.bx .cur a0) [] (Yn (.bx .cur) (Q5 (.t .entry)))=Z71.F k a0:=by kernel_rfl
theorem Z71.G (hE:EnvOk Tryz.prog Q0)(pv:Nat->Value)(k:Nat):∀cal A,Z71.C k cal=some A->Qc Tryz.prog Q0 pv cal A:=by
 intro cal A h
 unfold Z71.C at h
 split at h
 ·cases h;exact⟨_,rfl,λx0 x y hy=>Z11.good hE pv x0 x.1 hy⟩
 ·cases h;exact⟨_,rfl,λx0 x y hy=>Z5.good hE pv x0 x.1 hy⟩
 ·cases h;exact⟨_,rfl,λx0 x y hy=>Z20.good hE pv k x0 hy⟩
 ·cases h;exact λx y hy=>Z123.good hE pv hy
 ·cases h;exact⟨_,rfl,λx0 x y hy=>Z69.good hE pv x0 hy⟩
 ·cases h;exact⟨_,rfl,λx0 x y hy=>Z40.good hE pv x0 x.1 hy⟩
 ·cases h;exact⟨_,rfl,λx0 x y hy=>Z57.good hE pv x0 x.1 hy⟩
 ·cases h
theorem Z71.good (hE:EnvOk Tryz.prog Q0)(pv:Nat->Value)(k:Nat)(a0:Cur){y:_}(h:Z71.F k a0=some y):QF Tryz.prog Q0 pv 84 (.bx .cur a0) (Q7 [] (())) (.kep (.bx .cur y.1) (.t .entry y.2)):=
 QU hE (Z71.G hE pv k) (f:=84) (fn:=Tryz.f84) (by kernel_rfl) rfl (by kernel_rfl) (.inl rfl) (by kernel_rfl) ((Z71.run k a0).trans h) (λr hr=>J1 (λr y h=>Q1 h) hr)
def Z107.F (k:Nat)(a0:Cur):Option (Cur×Name):=(Z25.F k a0).bind λr1=>(Z5.F r1.1 16).bind λr2=>bif (r2.2==0)then((Z11.F r2.1 ([(⟨#[]⟩:ByteArray),(⟨#[98,101,114,103]⟩:ByteArray),(⟨#[66,45]⟩:ByteArray),(⟨#[66,45,45,99]⟩:ByteArray),(⟨#[65,98,99,100,101,102,103,104,105,106,107,108]⟩:ByteArray),(⟨#[65,98,99,100,101,102,103,104,105,106,107,108,109]⟩:ByteArray),(⟨#[66,57]⟩:ByteArray)]:List ByteArray)).bind λr3=>some (r3.1,(⟨r1.2.given,r1.2.particle,r3.2,r1.2.suffix⟩:Name)))else(bif (r2.2==1)then((Z11.F r2.1 ([(⟨#[86,97,110]⟩:ByteArray),(⟨#[118,97,110,32,100,101,114,32,100,101]⟩:ByteArray),(⟨#[118,97,110,32]⟩:ByteArray),(⟨#[100,39]⟩:ByteArray),(⟨#[100,39,97]⟩:ByteArray),(⟨#[118,97,110,32,32,100,101,114]⟩:ByteArray)]:List ByteArray)).bind λr4=>some (r4.1,(⟨r1.2.given,r4.2,r1.2.family,r1.2.suffix⟩:Name)))else(bif (r2.2==2)then((Z11.F r2.1 ([(⟨#[45]⟩:ByteArray),(⟨#[74,32,114]⟩:ByteArray),(⟨#[120]⟩:ByteArray)]:List ByteArray)).bind λr5=>some (r5.1,(⟨r1.2.given,r1.2.particle,r1.2.family,r5.2⟩:Name)))else(bif (r2.2==3)then((Z11.F r2.1 ([(⟨#[97,110,110,97]⟩:ByteArray),(⟨#[]⟩:ByteArray),(⟨#[67]⟩:ByteArray),(⟨#[68,32,101]⟩:ByteArray)]:List ByteArray)).bind λr6=>bif room (r1.2.given.length+([r6.2,(⟨#[69,118,101]⟩:ByteArray)]:List ByteArray).length) .str then(some (r6.1,(⟨(r1.2.given++([r6.2,(⟨#[69,118,101]⟩:ByteArray)]:List ByteArray)),r1.2.particle,r1.2.family,r1.2.suffix⟩:Name)))else none)else(some (r2.1,(⟨r1.2.given,r1.2.particle,r1.2.family,r1.2.suffix⟩:Name))))))
def Z107.C (k:Nat):Cal->Option CArm:=λc=>match c with
 |.f 132=>some (.m (.bx .cur) [] _ (λx0 x=>Z25.F k x0) (λr=>.kep (.bx .cur r.1) (sfV 9 .name r.2)))
 |.f 44=>some (.m (.bx .cur) [(.int .i64)] _ (λx0 x=>Z5.F x0 x.1) (λr=>.kep (.bx .cur r.1) (.t (.int .i64) r.2)))
 |.f 77=>some (.m (.bx .cur) [(.sl .str)] _ (λx0 x=>Z11.F x0 x.1) (λr=>.kep (.bx .cur r.1) (.t .str r.2)))
 |_=>none
theorem Z107.run (k:Nat)(a0:Cur):YB Q0 (Q8 (Z107.C k)) (Q6 37 0 (λ_=>none)) Tryz.f131 Qg (.bx .cur a0) [] (Yn (.bx .cur) (Q5 (.sf .name 9)))=Z107.F k a0:=by kernel_rfl
theorem Z107.G (hE:EnvOk Tryz.prog Q0)(pv:Nat->Value)(k:Nat):∀cal A,Z107.C k cal=some A->Qc Tryz.prog Q0 pv cal A:=by
 intro cal A h
 unfold Z107.C at h
 split at h
 ·cases h;exact⟨_,rfl,λx0 x y hy=>Z25.good hE pv k x0 hy⟩
 ·cases h;exact⟨_,rfl,λx0 x y hy=>Z5.good hE pv x0 x.1 hy⟩
 ·cases h;exact⟨_,rfl,λx0 x y hy=>Z11.good hE pv x0 x.1 hy⟩
 ·cases h
theorem Z107.good (hE:EnvOk Tryz.prog Q0)(pv:Nat->Value)(k:Nat)(a0:Cur){y:_}(h:Z107.F k a0=some y):QF Tryz.prog Q0 pv 131 (.bx .cur a0) (Q7 [] (())) (.kep (.bx .cur y.1) (sfV 9 .name y.2)):=
 QU hE (Z107.G hE pv k) (f:=131) (fn:=Tryz.f131) (by kernel_rfl) rfl (by kernel_rfl) (.inl rfl) (by kernel_rfl) ((Z107.run k a0).trans h) (λr hr=>J1 (λr y h=>Q1 h) hr)
def Z51.l1:Nat->Cur->(List Name)->Option (Cur× (List Name))
 |0,_,_=>none
 |k+1,x0,x3=>(Z5.F x0 2).bind λr4=>bif (decide ((x3.length:Int)<(IntKind.wrap .i64 (4+r4.2))))then((Z25.F k r4.1).bind λr5=>bif room (x3.length+([(⟨r5.2.given,r5.2.particle,r5.2.family,r5.2.suffix⟩:Name)]:List Name).length) .name then(Z51.l1 k r5.1 (x3++([(⟨r5.2.given,r5.2.particle,r5.2.family,r5.2.suffix⟩:Name)]:List Name)))else none)else(some (r4.1,x3))
def Z51.F (k:Nat)(a0:Cur):Option (Cur×List Name):=(Z20.F k a0).bind λr1=>(Z5.F r1.1 12).bind λr2=>bif (r2.2==0)then((Z107.F k r2.1).bind λr3=>bif room (r1.2.length+([(⟨r3.2.given,r3.2.particle,r3.2.family,r3.2.suffix⟩:Name)]:List Name).length) .name then(some (r3.1,(r1.2++([(⟨r3.2.given,r3.2.particle,r3.2.family,r3.2.suffix⟩:Name)]:List Name))))else none)else(bif (r2.2==1)then((Z51.l1 k r2.1 r1.2).bind λy6=>some (y6.1,y6.2))else(some (r2.1,r1.2)))
def Z51.C (k:Nat):Cal->Option CArm:=λc=>match c with
 |.f 100=>some (.m (.bx .cur) [] _ (λx0 x=>Z20.F k x0) (λr=>.kep (.bx .cur r.1) (.fr 89 .name r.2)))
 |.f 44=>some (.m (.bx .cur) [(.int .i64)] _ (λx0 x=>Z5.F x0 x.1) (λr=>.kep (.bx .cur r.1) (.t (.int .i64) r.2)))
 |.f 131=>some (.m (.bx .cur) [] _ (λx0 x=>Z107.F k x0) (λr=>.kep (.bx .cur r.1) (sfV 9 .name r.2)))
 |.f 132=>some (.m (.bx .cur) [] _ (λx0 x=>Z25.F k x0) (λr=>.kep (.bx .cur r.1) (sfV 9 .name r.2)))
 |_=>none
def Z51.sp1:List Sp:=[.boxT 0 1099511627776 .cur,.own 3 1028 89 .name false true]
def Z51.sp1_0:List Sp:=[.boxT 0 1099511627776 .cur,.own 3 1028 89 .name false true]
def Z51.A1:LArm:=.one Z51.sp1 Z51.sp1_0 (Cur× (List Name)) (λk x=>Z51.l1 k x.1 x.2.1) (.exit 1) (λy=>(y.1,y.2,())) (λx=>(x.1,x.2.1))
def Z51.L:Nat->Option LArm:=λb=>match b with
 |1=>some Z51.A1
 |_=>none
theorem Z51.run (k:Nat)(a0:Cur):YB Q0 (Q8 (Z51.C k)) (Q6 29 k Z51.L) Tryz.f85 Qg (.bx .cur a0) [] (Yn (.bx .cur) (Q5 (.fr 89 .name)))=Z51.F k a0:=by kernel_rfl
theorem Z51.step1 (k:Nat)(x0:Cur)(x3:List Name):Qs Q0 (Q8 (Z51.C k)) (Q6 29 k Z51.L) 1 (Qh Tryz.f85 1) (QA 29 Z51.sp1 (x0,x3,())) (Z51.A1.cont 29 k)=Z51.l1 (k+1) x0 x3:=by kernel_rfl
theorem Z51.G (hE:EnvOk Tryz.prog Q0)(pv:Nat->Value)(k:Nat):∀cal A,Z51.C k cal=some A->Qc Tryz.prog Q0 pv cal A:=by
 intro cal A h
 unfold Z51.C at h
 split at h
 ·cases h;exact⟨_,rfl,λx0 x y hy=>Z20.good hE pv k x0 hy⟩
 ·cases h;exact⟨_,rfl,λx0 x y hy=>Z5.good hE pv x0 x.1 hy⟩
 ·cases h;exact⟨_,rfl,λx0 x y hy=>Z107.good hE pv k x0 hy⟩
 ·cases h;exact⟨_,rfl,λx0 x y hy=>Z25.good hE pv k x0 hy⟩
 ·cases h
theorem Z51.good (hE:EnvOk Tryz.prog Q0)(pv:Nat->Value)(k:Nat)(a0:Cur){y:_}(h:Z51.F k a0=some y):QF Tryz.prog Q0 pv 85 (.bx .cur a0) (Q7 [] (())) (.kep (.bx .cur y.1) (.fr 89 .name y.2)):=
 JY hE (t:=Z51.C) k (λk _=>Z51.G hE pv k) (f:=85) (fn:=Tryz.f85) (by kernel_rfl) rfl (by kernel_rfl) (.inl rfl) (by kernel_rfl) (lt:=Z51.L) (by kernel_rfl) (λb A h=>by
  unfold Z51.L at h;split at h
  ·cases h;exact⟨by kernel_rfl,by kernel_rfl,λ_=>rfl,λ_=>rfl⟩
  ·cases h) (λb A h=>by
  unfold Z51.L at h;split at h
  ·cases h;exact λk x=>Z51.step1 k x.1 x.2.1
  ·cases h) ((Z51.run k a0).trans h) (λr hr=>J1 (λr y h=>Q1 h) hr)
def Z95.F (a0:Cur):Option (Cur×Date):=(Z69.F a0).bind λr1=>(Z5.F r1.1 14).bind λr2=>bif (r2.2==0)then((Z57.F r2.1 ([0,(-1),2999,3000,1]:List Int)).bind λr3=>some (r3.1,(⟨r3.2,r1.2.m,r1.2.d,r1.2.c⟩:Date)))else(bif (r2.2==1)then((Z57.F r2.1 ([13,(-1),2]:List Int)).bind λr4=>some (r4.1,(⟨r1.2.y,r4.2,r1.2.d,r1.2.c⟩:Date)))else(bif (r2.2==2)then((Z57.F r2.1 ([29,30,31,32,(-1)]:List Int)).bind λr5=>some (r5.1,(⟨r1.2.y,r1.2.m,r5.2,r1.2.c⟩:Date)))else(bif (r2.2==3)then(some (r2.1,(⟨r1.2.y,r1.2.m,r1.2.d,(!r1.2.c)⟩:Date)))else(some (r2.1,r1.2)))))
def Z95.C:Cal->Option CArm:=λc=>match c with
 |.f 99=>some (.m (.bx .cur) [] _ (λx0 x=>Z69.F x0) (λr=>.kep (.bx .cur r.1) (.t .date r.2)))
 |.f 44=>some (.m (.bx .cur) [(.int .i64)] _ (λx0 x=>Z5.F x0 x.1) (λr=>.kep (.bx .cur r.1) (.t (.int .i64) r.2)))
 |.f 43=>some (.m (.bx .cur) [(.sl (.int .i64))] _ (λx0 x=>Z57.F x0 x.1) (λr=>.kep (.bx .cur r.1) (.t (.int .i64) r.2)))
 |_=>none
theorem Z95.run (a0:Cur):YB Q0 (Q8 Z95.C) (Q6 33 0 (λ_=>none)) Tryz.f86 Qg (.bx .cur a0) [] (Yn (.bx .cur) (Q5 (.t .date)))=Z95.F a0:=by kernel_rfl
theorem Z95.G (hE:EnvOk Tryz.prog Q0)(pv:Nat->Value):∀cal A,Z95.C cal=some A->Qc Tryz.prog Q0 pv cal A:=by
 intro cal A h
 unfold Z95.C at h
 split at h
 ·cases h;exact⟨_,rfl,λx0 x y hy=>Z69.good hE pv x0 hy⟩
 ·cases h;exact⟨_,rfl,λx0 x y hy=>Z5.good hE pv x0 x.1 hy⟩
 ·cases h;exact⟨_,rfl,λx0 x y hy=>Z57.good hE pv x0 x.1 hy⟩
 ·cases h
theorem Z95.good (hE:EnvOk Tryz.prog Q0)(pv:Nat->Value)(a0:Cur){y:_}(h:Z95.F a0=some y):QF Tryz.prog Q0 pv 86 (.bx .cur a0) (Q7 [] (())) (.kep (.bx .cur y.1) (.t .date y.2)):=
 QU hE (Z95.G hE pv) (f:=86) (fn:=Tryz.f86) (by kernel_rfl) rfl (by kernel_rfl) (.inl rfl) (by kernel_rfl) ((Z95.run a0).trans h) (λr hr=>J1 (λr y h=>Q1 h) hr)
def Z61.F (k:Nat)(a0:Cur):Option (Cur×Entry):=(Z71.F k a0).bind λr1=>(Z5.F r1.1 24).bind λr2=>bif (r2.2==0)then((Z11.F r2.1 ([(⟨#[]⟩:ByteArray),(⟨#[65]⟩:ByteArray),(⟨#[49,97]⟩:ByteArray),(⟨#[97,98,99,100,101,102,103,104,105,106]⟩:ByteArray),(⟨#[97,98,99,100,101,102,103,104,105,106,107]⟩:ByteArray)]:List ByteArray)).bind λr3=>some (r3.1,(⟨r3.2,r1.2.kind,r1.2.authors,r1.2.editors,r1.2.title,r1.2.container,r1.2.publisher,r1.2.date,r1.2.volume,r1.2.pages,r1.2.cross⟩:Entry)))else(bif (r2.2==1)then((Z5.F r2.1 6).bind λr4=>some (r4.1,(⟨r1.2.key,r4.2,r1.2.authors,r1.2.editors,r1.2.title,r1.2.container,r1.2.publisher,r1.2.date,r1.2.volume,r1.2.pages,r1.2.cross⟩:Entry)))else(bif (r2.2==2)then((Z51.F k r2.1).bind λr5=>some (r5.1,(⟨r1.2.key,r1.2.kind,r5.2,r1.2.editors,r1.2.title,r1.2.container,r1.2.publisher,r1.2.date,r1.2.volume,r1.2.pages,r1.2.cross⟩:Entry)))else(bif (r2.2==3)then((Z11.F r2.1 ([(⟨#[32,120]⟩:ByteArray),(⟨#[120,32]⟩:ByteArray),(⟨#[97,9,98]⟩:ByteArray),(⟨#[48,49,50,51,52,53,54,55,56,57,48,49,50,51,52,53,54,55,56,57,48,49,50,51,52,53,54,55,56,57,48,49,50,51,52,53,54,55,56,57]⟩:ByteArray),(⟨#[48,49,50,51,52,53,54,55,56,57,48,49,50,51,52,53,54,55,56,57,48,49,50,51,52,53,54,55,56,57,48,49,50,51,52,53,54,55,56,57,48]⟩:ByteArray)]:List ByteArray)).bind λr6=>some (r6.1,(⟨r1.2.key,r1.2.kind,r1.2.authors,r1.2.editors,r6.2,r1.2.container,r1.2.publisher,r1.2.date,r1.2.volume,r1.2.pages,r1.2.cross⟩:Entry)))else(bif (r2.2==4)then((Z95.F r2.1).bind λr7=>some (r7.1,(⟨r1.2.key,r1.2.kind,r1.2.authors,r1.2.editors,r1.2.title,r1.2.container,r1.2.publisher,r7.2,r1.2.volume,r1.2.pages,r1.2.cross⟩:Entry)))else(bif (r2.2==5)then((Z57.F r2.1 ([(-1),10000]:List Int)).bind λr8=>some (r8.1,(⟨r1.2.key,r1.2.kind,r1.2.authors,r1.2.editors,r1.2.title,r1.2.container,r1.2.publisher,r1.2.date,r8.2,r1.2.pages,r1.2.cross⟩:Entry)))else(bif (r2.2==6)then((Z11.F r2.1 ([r1.2.key,(⟨#[65]⟩:ByteArray),(⟨#[98,50]⟩:ByteArray)]:List ByteArray)).bind λr9=>some (r9.1,(⟨r1.2.key,r1.2.kind,r1.2.authors,r1.2.editors,r1.2.title,r1.2.container,r1.2.publisher,r1.2.date,r1.2.volume,r1.2.pages,r9.2⟩:Entry)))else(bif (r2.2==7)then((Z51.F k r2.1).bind λr10=>some (r10.1,(⟨r1.2.key,r1.2.kind,r1.2.authors,r10.2,r1.2.title,r1.2.container,r1.2.publisher,r1.2.date,r1.2.volume,r1.2.pages,r1.2.cross⟩:Entry)))else(some (r2.1,r1.2)))))))))
def Z61.C (k:Nat):Cal->Option CArm:=λc=>match c with
 |.f 84=>some (.m (.bx .cur) [] _ (λx0 x=>Z71.F k x0) (λr=>.kep (.bx .cur r.1) (.t .entry r.2)))
 |.f 44=>some (.m (.bx .cur) [(.int .i64)] _ (λx0 x=>Z5.F x0 x.1) (λr=>.kep (.bx .cur r.1) (.t (.int .i64) r.2)))
 |.f 77=>some (.m (.bx .cur) [(.sl .str)] _ (λx0 x=>Z11.F x0 x.1) (λr=>.kep (.bx .cur r.1) (.t .str r.2)))
 |.f 85=>some (.m (.bx .cur) [] _ (λx0 x=>Z51.F k x0) (λr=>.kep (.bx .cur r.1) (.fr 89 .name r.2)))
 |.f 86=>some (.m (.bx .cur) [] _ (λx0 x=>Z95.F x0) (λr=>.kep (.bx .cur r.1) (.t .date r.2)))
 |.f 43=>some (.m (.bx .cur) [(.sl (.int .i64))] _ (λx0 x=>Z57.F x0 x.1) (λr=>.kep (.bx .cur r.1) (.t (.int .i64) r.2)))
 |_=>none
theorem Z61.run (k:Nat)(a0:Cur):YB Q0 (Q8 (Z61.C k)) (Q6 55 0 (λ_=>none)) Tryz.f48 Qg (.bx .cur a0) [] (Yn (.bx .cur) (Q5 (.t .entry)))=Z61.F k a0:=by kernel_rfl
theorem Z61.G (hE:EnvOk Tryz.prog Q0)(pv:Nat->Value)(k:Nat):∀cal A,Z61.C k cal=some A->Qc Tryz.prog Q0 pv cal A:=by
 intro cal A h
 unfold Z61.C at h
 split at h
 ·cases h;exact⟨_,rfl,λx0 x y hy=>Z71.good hE pv k x0 hy⟩
 ·cases h;exact⟨_,rfl,λx0 x y hy=>Z5.good hE pv x0 x.1 hy⟩
 ·cases h;exact⟨_,rfl,λx0 x y hy=>Z11.good hE pv x0 x.1 hy⟩
 ·cases h;exact⟨_,rfl,λx0 x y hy=>Z51.good hE pv k x0 hy⟩
 ·cases h;exact⟨_,rfl,λx0 x y hy=>Z95.good hE pv x0 hy⟩
 ·cases h;exact⟨_,rfl,λx0 x y hy=>Z57.good hE pv x0 x.1 hy⟩
 ·cases h
theorem Z61.good (hE:EnvOk Tryz.prog Q0)(pv:Nat->Value)(k:Nat)(a0:Cur){y:_}(h:Z61.F k a0=some y):QF Tryz.prog Q0 pv 48 (.bx .cur a0) (Q7 [] (())) (.kep (.bx .cur y.1) (.t .entry y.2)):=
 QU hE (Z61.G hE pv k) (f:=48) (fn:=Tryz.f48) (by kernel_rfl) rfl (by kernel_rfl) (.inl rfl) (by kernel_rfl) ((Z61.run k a0).trans h) (λr hr=>J1 (λr y h=>Q1 h) hr)
mutual
def Z54.F:Nat->Int->Option (ByteArray)
 |0,_=>none
 |k+1,a0=>bif (decide (a0<0))then((Z54.F k (IntKind.wrap .i64 (0-a0))).bind λr1=>bif Nat.ble ((⟨#[45]⟩:ByteArray).size+r1.size) 9223372036854775807 then(some ((⟨#[45]⟩:ByteArray)++r1))else none)else(bif (decide (a0<10))then(bif decide (0<=(IntKind.wrap .i64 (a0+1)))then(bif decide ((IntKind.wrap .i64 (a0+1))<=((⟨#[48,49,50,51,52,53,54,55,56,57]⟩:ByteArray).size:Int))then(bif decide (0<=a0)then(bif decide (a0<=(IntKind.wrap .i64 (a0+1)))then(some ((⟨#[48,49,50,51,52,53,54,55,56,57]⟩:ByteArray).extract (a0:Int).toNat ((IntKind.wrap .i64 (a0+1)):Int).toNat))else none)else none)else none)else none)else(bif (10==0)then(none)else((Z54.F k (IntKind.wrap .i64 (Int.tdiv a0 10))).bind λr2=>bif (10==0)then(none)else(bif (10==0)then(none)else(bif decide (0<=(IntKind.wrap .i64 ((Int.tmod a0 10)+1)))then(bif decide ((IntKind.wrap .i64 ((Int.tmod a0 10)+1))<=((⟨#[48,49,50,51,52,53,54,55,56,57]⟩:ByteArray).size:Int))then(bif decide (0<=(Int.tmod a0 10))then(bif decide ((Int.tmod a0 10)<=(IntKind.wrap .i64 ((Int.tmod a0 10)+1)))then(bif Nat.ble (r2.size+((⟨#[48,49,50,51,52,53,54,55,56,57]⟩:ByteArray).extract ((Int.tmod a0 10):Int).toNat ((IntKind.wrap .i64 ((Int.tmod a0 10)+1)):Int).toNat).size) 9223372036854775807 then(some (r2++((⟨#[48,49,50,51,52,53,54,55,56,57]⟩:ByteArray).extract ((Int.tmod a0 10):Int).toNat ((IntKind.wrap .i64 ((Int.tmod a0 10)+1)):Int).toNat)))else none)else none)else none)else none)else none)))))
end
def Z54.C (k:Nat):Cal->Option CArm:=λc=>match c with
 |.f 59=>some (.p [(.int .i64)] _ (λx=>Z54.F k x.1) (λr=>(.t .str r)))
 |_=>none
theorem Z54.run (k:Nat)(a0:Int):Qm Q0 (Q8 (Z54.C k)) (Q6 25 0 (λ_=>none)) Tryz.f59 [.t (.int .i64) a0] (Q5 (.t .str))=Z54.F (k+1) a0:=by kernel_rfl
def Z54.Gd (pv:Nat->Value)(k:Nat):Prop:=(∀(a0:Int) {y:_},Z54.F k a0=some y->Qd Tryz.prog Q0 pv (.f 59) (Q7 [(.int .i64)] (a0,())) (.t .str y))
theorem Z54.G (hE:EnvOk Tryz.prog Q0)(pv:Nat->Value)(k:Nat)(hI:Z54.Gd pv k):∀cal A,Z54.C k cal=some A->Qc Tryz.prog Q0 pv cal A:=by
 intro cal A h
 unfold Z54.C at h
 split at h
 ·cases h;exact λx y hy=>hI x.1 hy
 ·cases h
theorem Z54.gd (hE:EnvOk Tryz.prog Q0)(pv:Nat->Value)(k:Nat)(hI:∀k',k'<=k->Z54.Gd pv k')(a0:Int){y:_}(h:Z54.F (k+1) a0=some y):Qd Tryz.prog Q0 pv (.f 59) (Q7 [(.int .i64)] (a0,())) (.t .str y):=
 Qb hE (Z54.G hE pv k (hI k (Nat.le_refl k))) (f:=59) (fn:=Tryz.f59) (by kernel_rfl) rfl (by kernel_rfl) (by kernel_rfl) ((Z54.run k a0).trans h) (λr hr=>Q1 hr)
theorem Z54.all (hE:EnvOk Tryz.prog Q0)(pv:Nat->Value):∀k k',k'<=k->Z54.Gd pv k':=by
 intro k
 induction k with
 |zero=>
  intro k' hk
  obtain rfl:k'=0:=by omega
  exact λ_ y h=>by cases (show(none:Option _)=some y from h)
 |succ k ih=>
  intro k' hk
  rcases Nat.lt_or_ge k' (k+1)with hlt|hge
  ·exact ih k' (by omega)
  ·obtain rfl:k'=k+1:=by omega
   exact λa0 y h=>Z54.gd hE pv k ih a0 h
theorem Z54.good (hE:EnvOk Tryz.prog Q0)(pv:Nat->Value)(k:Nat)(a0:Int){y:_}(h:Z54.F k a0=some y):Qd Tryz.prog Q0 pv (.f 59) (Q7 [(.int .i64)] (a0,())) (.t .str y):=
 (Z54.all hE pv k k (Nat.le_refl k)) a0 h
def Z46.l0:Nat->(List Name)->(List Name)->Int->Option ((List Name))
 |0,_,_,_=>none
 |k+1,x0,x3,x4=>bif (decide (x4<(x0.length:Int)))then(bif decide (0<=x4)then(bif decide (x4<(x0.length:Int))then(bif room (([]:List ByteArray).length+((x0.getD (x4:Int).toNat (Q4 .name)).given).length) .str then(bif room (x3.length+([(⟨(([]:List ByteArray)++((x0.getD (x4:Int).toNat (Q4 .name)).given)),(x0.getD (x4:Int).toNat (Q4 .name)).particle,(x0.getD (x4:Int).toNat (Q4 .name)).family,(x0.getD (x4:Int).toNat (Q4 .name)).suffix⟩:Name)]:List Name).length) .name then(Z46.l0 k x0 (x3++([(⟨(([]:List ByteArray)++((x0.getD (x4:Int).toNat (Q4 .name)).given)),(x0.getD (x4:Int).toNat (Q4 .name)).particle,(x0.getD (x4:Int).toNat (Q4 .name)).family,(x0.getD (x4:Int).toNat (Q4 .name)).suffix⟩:Name)]:List Name)) (IntKind.wrap .i64 (x4+1)))else none)else none)else none)else none)else(some x3)
def Z46.F (k:Nat)(a0:List Name):Option (List Name):=(Z46.l0 k a0 ([]:List Name) 0).bind λy1=>some y1
def Z46.C (k:Nat):Cal->Option CArm:=λc=>match c with
 |_=>none
def Z46.sp0:List Sp:=[.t 0 (.sl .name),.own 3 1024 89 .name false true,.t 4 (.int .i64)]
def Z46.sp0_0:List Sp:=[.own 3 1024 89 .name false true]
def Z46.A0:LArm:=.one Z46.sp0 Z46.sp0_0 ((List Name)) (λk x=>Z46.l0 k x.1 x.2.1 x.2.2.1) (.exit 0) (λy=>(y,())) (λx=>x.1)
def Z46.L:Nat->Option LArm:=λb=>match b with
 |0=>some Z46.A0
 |_=>none
theorem Z46.run (k:Nat)(a0:List Name):Qm Q0 (Q8 (Z46.C k)) (Q6 27 k Z46.L) Tryz.f87 [.t (.sl .name) a0] (Q5 (.fr 89 .name))=Z46.F k a0:=by kernel_rfl
theorem Z46.step0 (k:Nat)(x0:List Name)(x3:List Name)(x4:Int):Qs Q0 (Q8 (Z46.C k)) (Q6 27 k Z46.L) 0 (Qh Tryz.f87 0) (QA 27 Z46.sp0 (x0,x3,x4,())) (Z46.A0.cont 27 k)=Z46.l0 (k+1) x0 x3 x4:=by kernel_rfl
theorem Z46.G (hE:EnvOk Tryz.prog Q0)(pv:Nat->Value)(k:Nat):∀cal A,Z46.C k cal=some A->Qc Tryz.prog Q0 pv cal A:=by
 intro cal A h
 unfold Z46.C at h
 cases h
theorem Z46.good (hE:EnvOk Tryz.prog Q0)(pv:Nat->Value)(k:Nat)(a0:List Name){y:_}(h:Z46.F k a0=some y):Qd Tryz.prog Q0 pv (.f 87) (Q7 [(.sl .name)] (a0,())) (.fr 89 .name y):=
 Qj hE (t:=Z46.C) k (λk _=>Z46.G hE pv k) (f:=87) (fn:=Tryz.f87) (by kernel_rfl) rfl (by kernel_rfl) (by kernel_rfl) (lt:=Z46.L) (by kernel_rfl) (λb A h=>by
  unfold Z46.L at h;split at h
  ·cases h;exact⟨by kernel_rfl,by kernel_rfl,λ_=>rfl,λ_=>rfl⟩
  ·cases h) (λb A h=>by
  unfold Z46.L at h;split at h
  ·cases h;exact λk x=>Z46.step0 k x.1 x.2.1 x.2.2.1
  ·cases h) ((Z46.run k a0).trans h) (λr hr=>Q1 hr)
def Z60.F (k:Nat)(a0:Entry):Option (Entry):=(Z46.F k a0.authors).bind λr1=>(Z46.F k a0.editors).bind λr2=>some (⟨a0.key,a0.kind,r1,r2,a0.title,a0.container,a0.publisher,a0.date,a0.volume,a0.pages,a0.cross⟩:Entry)
def Z60.C (k:Nat):Cal->Option CArm:=λc=>match c with
 |.f 87=>some (.p [(.sl .name)] _ (λx=>Z46.F k x.1) (λr=>(.fr 89 .name r)))
 |_=>none
theorem Z60.run (k:Nat)(a0:Entry):Qm Q0 (Q8 (Z60.C k)) (Q6 12 0 (λ_=>none)) Tryz.f50 [.t .entry a0] (Q5 (.t .entry))=Z60.F k a0:=by kernel_rfl
theorem Z60.G (hE:EnvOk Tryz.prog Q0)(pv:Nat->Value)(k:Nat):∀cal A,Z60.C k cal=some A->Qc Tryz.prog Q0 pv cal A:=by
 intro cal A h
 unfold Z60.C at h
 split at h
 ·cases h;exact λx y hy=>Z46.good hE pv k x.1 hy
 ·cases h
theorem Z60.good (hE:EnvOk Tryz.prog Q0)(pv:Nat->Value)(k:Nat)(a0:Entry){y:_}(h:Z60.F k a0=some y):Qd Tryz.prog Q0 pv (.f 50) (Q7 [.entry] (a0,())) (.t .entry y):=
 Qb hE (Z60.G hE pv k) (f:=50) (fn:=Tryz.f50) (by kernel_rfl) rfl (by kernel_rfl) (by kernel_rfl) ((Z60.run k a0).trans h) (λr hr=>Q1 hr)
def Z12.l0:Nat->Library->Entry->(List Entry)->(List Entry)->Bool->Int->Option (Entry× (List Entry)× (List Entry)×Bool)
 |0,_,_,_,_,_,_=>none
 |k+1,x2,x3,x4,x5,x6,x7=>bif (decide (x7<(x2.entries.length:Int)))then(bif decide (0<=x7)then(bif decide (x7<(x2.entries.length:Int))then(bif (!ltS ((x2.entries.getD (x7:Int).toNat (Q4 .entry)).key) x3.key)then(bif (!x6)then((Z60.F k x3).bind λr1=>bif room (x5.length+([r1]:List Entry).length) .entry then(bif decide (0<=x7)then(bif decide (x7<(x2.entries.length:Int))then(bif (!Qr ((x2.entries.getD (x7:Int).toNat (Q4 .entry)).key) x3.key)then(bif decide (0<=x7)then(bif decide (x7<(x2.entries.length:Int))then((Z60.F k (x2.entries.getD (x7:Int).toNat (Q4 .entry))).bind λr2=>bif room ((x5++([r1]:List Entry)).length+([r2]:List Entry).length) .entry then(Z12.l0 k x2 x3 x4 ((x5++([r1]:List Entry))++([r2]:List Entry)) true (IntKind.wrap .i64 (x7+1)))else none)else none)else none)else(Z12.l0 k x2 x3 x4 (x5++([r1]:List Entry)) true (IntKind.wrap .i64 (x7+1))))else none)else none)else none)else(bif decide (0<=x7)then(bif decide (x7<(x2.entries.length:Int))then(bif (!Qr ((x2.entries.getD (x7:Int).toNat (Q4 .entry)).key) x3.key)then(bif decide (0<=x7)then(bif decide (x7<(x2.entries.length:Int))then((Z60.F k (x2.entries.getD (x7:Int).toNat (Q4 .entry))).bind λr3=>bif room (x5.length+([r3]:List Entry).length) .entry then(Z12.l0 k x2 x3 x4 (x5++([r3]:List Entry)) x6 (IntKind.wrap .i64 (x7+1)))else none)else none)else none)else(Z12.l0 k x2 x3 x4 x5 x6 (IntKind.wrap .i64 (x7+1))))else none)else none))else(bif decide (0<=x7)then(bif decide (x7<(x2.entries.length:Int))then(bif (!Qr ((x2.entries.getD (x7:Int).toNat (Q4 .entry)).key) x3.key)then(bif decide (0<=x7)then(bif decide (x7<(x2.entries.length:Int))then((Z60.F k (x2.entries.getD (x7:Int).toNat (Q4 .entry))).bind λr4=>bif room (x5.length+([r4]:List Entry).length) .entry then(Z12.l0 k x2 x3 x4 (x5++([r4]:List Entry)) x6 (IntKind.wrap .i64 (x7+1)))else none)else none)else none)else(Z12.l0 k x2 x3 x4 x5 x6 (IntKind.wrap .i64 (x7+1))))else none)else none))else none)else none)else(some (x3,x4,x5,x6))
def Z12.F (k:Nat)(a0:Library)(a1:Entry):Option (Library):=(Z12.l0 k a0 a1 ([]:List Entry) ([]) false 0).bind λy5=>bif (!y5.2.2.2)then((Z60.F k y5.1).bind λr6=>bif room (y5.2.2.1.length+([r6]:List Entry).length) .entry then(some (⟨(y5.2.2.1++([r6]:List Entry))⟩:Library))else none)else(some (⟨y5.2.2.1⟩:Library))
def Z12.C (k:Nat):Cal->Option CArm:=λc=>match c with
 |.f 50=>some (.p [.entry] _ (λx=>Z60.F k x.1) (λr=>(.t .entry r)))
 |_=>none
def Z12.sp0:List Sp:=[.boxT 2 0 .lib,.boxT 3 4 .entry,.boxF 4 8 .lib [.t (.sl .entry)],.boxF 5 1028 .lib [.own 1099511627859 48 .entry false true],.t 6 .bool,.t 7 (.int .i64)]
def Z12.sp0_0:List Sp:=[.boxT 3 4 .entry,.boxF 4 8 .lib [.t (.sl .entry)],.boxF 5 1028 .lib [.own 1099511627859 48 .entry false true],.t 6 .bool]
def Z12.A0:LArm:=.one Z12.sp0 Z12.sp0_0 (Entry× (List Entry)× (List Entry)×Bool) (λk x=>Z12.l0 k x.1 x.2.1 x.2.2.1.1 x.2.2.2.1.1 x.2.2.2.2.1 x.2.2.2.2.2.1) (.exit 0) (λy=>(y.1,(y.2.1,()),(y.2.2.1,()),y.2.2.2,())) (λx=>(x.1,x.2.1.1,x.2.2.1.1,x.2.2.2.1))
def Z12.L:Nat->Option LArm:=λb=>match b with
 |0=>some Z12.A0
 |_=>none
theorem Z12.run (k:Nat)(a0:Library)(a1:Entry):Qm Q0 (Q8 (Z12.C k)) (Q6 66 k Z12.L) Tryz.f51 [.t .lib a0,.t .entry a1] (Q5 (.sf .lib 48))=Z12.F k a0 a1:=by kernel_rfl
theorem Z12.step0 (k:Nat)(x2:Library)(x3:Entry)(x4:List Entry)(x5:List Entry)(x6:Bool)(x7:Int):Qs Q0 (Q8 (Z12.C k)) (Q6 66 k Z12.L) 0 (Qh Tryz.f51 0) (QA 66 Z12.sp0 (x2,x3,(x4,()),(x5,()),x6,x7,())) (Z12.A0.cont 66 k)=Z12.l0 (k+1) x2 x3 x4 x5 x6 x7:=by kernel_rfl
theorem Z12.G (hE:EnvOk Tryz.prog Q0)(pv:Nat->Value)(k:Nat):∀cal A,Z12.C k cal=some A->Qc Tryz.prog Q0 pv cal A:=by
 intro cal A h
 unfold Z12.C at h
 split at h
 ·cases h;exact λx y hy=>Z60.good hE pv k x.1 hy
 ·cases h
theorem Z12.good (hE:EnvOk Tryz.prog Q0)(pv:Nat->Value)(k:Nat)(a0:Library)(a1:Entry){y:_}(h:Z12.F k a0 a1=some y):Qd Tryz.prog Q0 pv (.f 51) (Q7 [.lib,.entry] (a0,a1,())) (sfV 48 .lib y):=
 Qj hE (t:=Z12.C) k (λk _=>Z12.G hE pv k) (f:=51) (fn:=Tryz.f51) (by kernel_rfl) rfl (by kernel_rfl) (by kernel_rfl) (lt:=Z12.L) (by kernel_rfl) (λb A h=>by
  unfold Z12.L at h;split at h
  ·cases h;exact⟨by kernel_rfl,by kernel_rfl,λ_=>rfl,λ_=>rfl⟩
  ·cases h) (λb A h=>by
  unfold Z12.L at h;split at h
  ·cases h;exact λk x=>Z12.step0 k x.1 x.2.1 x.2.2.1.1 x.2.2.2.1.1 x.2.2.2.2.1 x.2.2.2.2.2.1
  ·cases h) ((Z12.run k a0 a1).trans h) (λr hr=>Q1 hr)
def Z35.l0:Nat->Cur->(List Entry)->(List Entry)->Int->Option (Cur× (List Entry)× (List Entry))
 |0,_,_,_,_=>none
 |k+1,x0,x2,x3,x4=>bif (decide (x4 > 0))then((Z71.F k x0).bind λr2=>(Z40.F r2.1 4).bind λr3=>bif r3.2 then((Z11.F r3.1 ([(⟨#[97,49]⟩:ByteArray),(⟨#[98,50]⟩:ByteArray),(⟨#[99,51]⟩:ByteArray)]:List ByteArray)).bind λr4=>bif (Qr r4.2 r2.2.key)then((Z12.F k (⟨x3⟩:Library) (⟨r2.2.key,r2.2.kind,r2.2.authors,r2.2.editors,r2.2.title,r2.2.container,r2.2.publisher,r2.2.date,r2.2.volume,r2.2.pages,(⟨#[]⟩:ByteArray)⟩:Entry)).bind λr5=>Z35.l0 k r4.1 x2 r5.entries (IntKind.wrap .i64 (x4-1)))else((Z12.F k (⟨x3⟩:Library) (⟨r2.2.key,r2.2.kind,r2.2.authors,r2.2.editors,r2.2.title,r2.2.container,r2.2.publisher,r2.2.date,r2.2.volume,r2.2.pages,r4.2⟩:Entry)).bind λr6=>Z35.l0 k r4.1 x2 r6.entries (IntKind.wrap .i64 (x4-1))))else((Z12.F k (⟨x3⟩:Library) r2.2).bind λr7=>Z35.l0 k r3.1 x2 r7.entries (IntKind.wrap .i64 (x4-1))))else(some (x0,x2,x3))
def Z35.F (k:Nat)(a0:Cur):Option (Cur×Library):=(Z5.F a0 6).bind λr1=>(Z35.l0 k r1.1 ([]:List Entry) ([]) r1.2).bind λy8=>some (y8.1,(⟨y8.2.2⟩:Library))
def Z35.C (k:Nat):Cal->Option CArm:=λc=>match c with
 |.f 44=>some (.m (.bx .cur) [(.int .i64)] _ (λx0 x=>Z5.F x0 x.1) (λr=>.kep (.bx .cur r.1) (.t (.int .i64) r.2)))
 |.f 84=>some (.m (.bx .cur) [] _ (λx0 x=>Z71.F k x0) (λr=>.kep (.bx .cur r.1) (.t .entry r.2)))
 |.f 49=>some (.m (.bx .cur) [(.int .i64)] _ (λx0 x=>Z40.F x0 x.1) (λr=>.kep (.bx .cur r.1) (.t .bool r.2)))
 |.f 77=>some (.m (.bx .cur) [(.sl .str)] _ (λx0 x=>Z11.F x0 x.1) (λr=>.kep (.bx .cur r.1) (.t .str r.2)))
 |.f 51=>some (.p [.lib,.entry] _ (λx=>Z12.F k x.1 x.2.1) (λr=>(sfV 48 .lib r)))
 |_=>none
def Z35.sp0:List Sp:=[.boxT 0 1099511627776 .cur,.boxF 2 0 .lib [.t (.sl .entry)],.boxF 3 1028 .lib [.own 1099511627827 48 .entry false true],.t 4 (.int .i64)]
def Z35.sp0_0:List Sp:=[.boxT 0 1099511627776 .cur,.boxF 2 0 .lib [.t (.sl .entry)],.boxF 3 1028 .lib [.own 1099511627827 48 .entry false true]]
def Z35.A0:LArm:=.one Z35.sp0 Z35.sp0_0 (Cur× (List Entry)× (List Entry)) (λk x=>Z35.l0 k x.1 x.2.1.1 x.2.2.1.1 x.2.2.2.1) (.exit 0) (λy=>(y.1,(y.2.1,()),(y.2.2,()),())) (λx=>(x.1,x.2.1.1,x.2.2.1.1))
def Z35.L:Nat->Option LArm:=λb=>match b with
 |0=>some Z35.A0
 |_=>none
theorem Z35.run (k:Nat)(a0:Cur):YB Q0 (Q8 (Z35.C k)) (Q6 31 k Z35.L) Tryz.f83 Qg (.bx .cur a0) [] (Yn (.bx .cur) (Q5 (.sf .lib 48)))=Z35.F k a0:=by kernel_rfl
theorem Z35.step0 (k:Nat)(x0:Cur)(x2:List Entry)(x3:List Entry)(x4:Int):Qs Q0 (Q8 (Z35.C k)) (Q6 31 k Z35.L) 0 (Qh Tryz.f83 0) (QA 31 Z35.sp0 (x0,(x2,()),(x3,()),x4,())) (Z35.A0.cont 31 k)=Z35.l0 (k+1) x0 x2 x3 x4:=by kernel_rfl
theorem Z35.G (hE:EnvOk Tryz.prog Q0)(pv:Nat->Value)(k:Nat):∀cal A,Z35.C k cal=some A->Qc Tryz.prog Q0 pv cal A:=by
 intro cal A h
 unfold Z35.C at h
 split at h
 ·cases h;exact⟨_,rfl,λx0 x y hy=>Z5.good hE pv x0 x.1 hy⟩
 ·cases h;exact⟨_,rfl,λx0 x y hy=>Z71.good hE pv k x0 hy⟩
 ·cases h;exact⟨_,rfl,λx0 x y hy=>Z40.good hE pv x0 x.1 hy⟩
 ·cases h;exact⟨_,rfl,λx0 x y hy=>Z11.good hE pv x0 x.1 hy⟩
 ·cases h;exact λx y hy=>Z12.good hE pv k x.1 x.2.1 hy
 ·cases h
theorem Z35.good (hE:EnvOk Tryz.prog Q0)(pv:Nat->Value)(k:Nat)(a0:Cur){y:_}(h:Z35.F k a0=some y):QF Tryz.prog Q0 pv 83 (.bx .cur a0) (Q7 [] (())) (.kep (.bx .cur y.1) (sfV 48 .lib y.2)):=
 JY hE (t:=Z35.C) k (λk _=>Z35.G hE pv k) (f:=83) (fn:=Tryz.f83) (by kernel_rfl) rfl (by kernel_rfl) (.inl rfl) (by kernel_rfl) (lt:=Z35.L) (by kernel_rfl) (λb A h=>by
  unfold Z35.L at h;split at h
  ·cases h;exact⟨by kernel_rfl,by kernel_rfl,λ_=>rfl,λ_=>rfl⟩
  ·cases h) (λb A h=>by
  unfold Z35.L at h;split at h
  ·cases h;exact λk x=>Z35.step0 k x.1 x.2.1.1 x.2.2.1.1 x.2.2.2.1
  ·cases h) ((Z35.run k a0).trans h) (λr hr=>J1 (λr y h=>Q1 h) hr)
def Z41.l1:Nat->Cur->(List Entry)->(List Entry)->Int->Option (Cur× (List Entry)× (List Entry))
 |0,_,_,_,_=>none
 |k+1,x0,x2,x3,x4=>(Z5.F x0 2).bind λr5=>bif (decide ((x3.length:Int)<(IntKind.wrap .i64 (8+r5.2))))then(bif (decide (x4<10))then((Z71.F k r5.1).bind λr6=>(Z54.F k x4).bind λr7=>bif Nat.ble ((⟨#[120]⟩:ByteArray).size+r7.size) 9223372036854775807 then(bif room (x3.length+([(⟨((⟨#[120]⟩:ByteArray)++r7),r6.2.kind,r6.2.authors,r6.2.editors,r6.2.title,r6.2.container,r6.2.publisher,r6.2.date,r6.2.volume,r6.2.pages,r6.2.cross⟩:Entry)]:List Entry).length) .entry then(Z41.l1 k r6.1 x2 (x3++([(⟨((⟨#[120]⟩:ByteArray)++r7),r6.2.kind,r6.2.authors,r6.2.editors,r6.2.title,r6.2.container,r6.2.publisher,r6.2.date,r6.2.volume,r6.2.pages,r6.2.cross⟩:Entry)]:List Entry)) (IntKind.wrap .i64 (x4+1)))else none)else none)else(some (r5.1,x2,x3)))else(some (r5.1,x2,x3))
def Z41.F (k:Nat)(a0:Cur):Option (Cur×Library):=(Z35.F k a0).bind λr1=>bif ((r1.2.entries.length:Int)==0)then(some (r1.1,(⟨r1.2.entries⟩:Library)))else((Z5.F r1.1 16).bind λr2=>bif (r2.2==0)then((Z5.F r2.1 (r1.2.entries.length:Int)).bind λr3=>(Z61.F k r3.1).bind λr4=>bif decide (0<=r3.2)then(bif decide (r3.2<(r1.2.entries.length:Int))then(some (r4.1,(⟨(r1.2.entries.set ((r3.2:Int).toNat) r4.2)⟩:Library)))else none)else none)else(bif (r2.2==1)then(bif decide (0<=0)then(bif decide (0<(r1.2.entries.length:Int))then(bif room (r1.2.entries.length+([(r1.2.entries.getD ((0:Int).toNat) (Q4 .entry))]:List Entry).length) .entry then(some (r2.1,(⟨(r1.2.entries++([(r1.2.entries.getD ((0:Int).toNat) (Q4 .entry))]:List Entry))⟩:Library)))else none)else none)else none)else(bif (r2.2==2)then((Z41.l1 k r2.1 ([]:List Entry) r1.2.entries 0).bind λy8=>some (y8.1,(⟨y8.2.2⟩:Library)))else(some (r2.1,(⟨r1.2.entries⟩:Library))))))
def Z41.C (k:Nat):Cal->Option CArm:=λc=>match c with
 |.f 83=>some (.m (.bx .cur) [] _ (λx0 x=>Z35.F k x0) (λr=>.kep (.bx .cur r.1) (sfV 48 .lib r.2)))
 |.f 44=>some (.m (.bx .cur) [(.int .i64)] _ (λx0 x=>Z5.F x0 x.1) (λr=>.kep (.bx .cur r.1) (.t (.int .i64) r.2)))
 |.f 48=>some (.m (.bx .cur) [] _ (λx0 x=>Z61.F k x0) (λr=>.kep (.bx .cur r.1) (.t .entry r.2)))
 |.f 84=>some (.m (.bx .cur) [] _ (λx0 x=>Z71.F k x0) (λr=>.kep (.bx .cur r.1) (.t .entry r.2)))
 |.f 59=>some (.p [(.int .i64)] _ (λx=>Z54.F k x.1) (λr=>(.t .str r)))
 |_=>none
def Z41.sp1:List Sp:=[.boxT 0 1099511627776 .cur,.boxF 2 0 .lib [.t (.sl .entry)],.boxF 3 1032 .lib [.own 1028 48 .entry false true],.t 4 (.int .i64)]
def Z41.sp1_0:List Sp:=[.boxT 0 1099511627776 .cur,.boxF 2 0 .lib [.t (.sl .entry)],.boxF 3 1032 .lib [.own 1028 48 .entry false true]]
def Z41.A1:LArm:=.one Z41.sp1 Z41.sp1_0 (Cur× (List Entry)× (List Entry)) (λk x=>Z41.l1 k x.1 x.2.1.1 x.2.2.1.1 x.2.2.2.1) (.exit 1) (λy=>(y.1,(y.2.1,()),(y.2.2,()),())) (λx=>(x.1,x.2.1.1,x.2.2.1.1))
def Z41.L:Nat->Option LArm:=λb=>match b with
 |1=>some Z41.A1
 |_=>none
theorem Z41.run (k:Nat)(a0:Cur):YB Q0 (Q8 (Z41.C k)) (Q6 66 k Z41.L) Tryz.f47 Qg (.bx .cur a0) [] (Yn (.bx .cur) (Q5 (.sf .lib 48)))=Z41.F k a0:=by kernel_rfl
theorem Z41.step1 (k:Nat)(x0:Cur)(x2:List Entry)(x3:List Entry)(x4:Int):Qs Q0 (Q8 (Z41.C k)) (Q6 66 k Z41.L) 1 (Qh Tryz.f47 1) (QA 66 Z41.sp1 (x0,(x2,()),(x3,()),x4,())) (Z41.A1.cont 66 k)=Z41.l1 (k+1) x0 x2 x3 x4:=by kernel_rfl
theorem Z41.G (hE:EnvOk Tryz.prog Q0)(pv:Nat->Value)(k:Nat):∀cal A,Z41.C k cal=some A->Qc Tryz.prog Q0 pv cal A:=by
 intro cal A h
 unfold Z41.C at h
 split at h
 ·cases h;exact⟨_,rfl,λx0 x y hy=>Z35.good hE pv k x0 hy⟩
 ·cases h;exact⟨_,rfl,λx0 x y hy=>Z5.good hE pv x0 x.1 hy⟩
 ·cases h;exact⟨_,rfl,λx0 x y hy=>Z61.good hE pv k x0 hy⟩
 ·cases h;exact⟨_,rfl,λx0 x y hy=>Z71.good hE pv k x0 hy⟩
 ·cases h;exact λx y hy=>Z54.good hE pv k x.1 hy
 ·cases h
theorem Z41.good (hE:EnvOk Tryz.prog Q0)(pv:Nat->Value)(k:Nat)(a0:Cur){y:_}(h:Z41.F k a0=some y):QF Tryz.prog Q0 pv 47 (.bx .cur a0) (Q7 [] (())) (.kep (.bx .cur y.1) (sfV 48 .lib y.2)):=
 JY hE (t:=Z41.C) k (λk _=>Z41.G hE pv k) (f:=47) (fn:=Tryz.f47) (by kernel_rfl) rfl (by kernel_rfl) (.inl rfl) (by kernel_rfl) (lt:=Z41.L) (by kernel_rfl) (λb A h=>by
  unfold Z41.L at h;split at h
  ·cases h;exact⟨by kernel_rfl,by kernel_rfl,λ_=>rfl,λ_=>rfl⟩
  ·cases h) (λb A h=>by
  unfold Z41.L at h;split at h
  ·cases h;exact λk x=>Z41.step1 k x.1 x.2.1.1 x.2.2.1.1 x.2.2.2.1
  ·cases h) ((Z41.run k a0).trans h) (λr hr=>J1 (λr y h=>Q1 h) hr)
def Z36.l0:Nat->ByteArray->(List Int)->Int->Option ((List Int))
 |0,_,_,_=>none
 |k+1,x0,x3,x4=>bif (decide (x4<(x0.size:Int)))then(bif decide (0<=x4)then(bif decide (x4<(x0.size:Int))then((Z73.F (bt x0 (x4:Int).toNat)).bind λr1=>bif room (x3.length+([r1]:List Int).length) (.int .u8)then(Z36.l0 k x0 (x3++([r1]:List Int)) (IntKind.wrap .i64 (x4+1)))else none)else none)else none)else(some x3)
def Z36.F (k:Nat)(a0:ByteArray):Option (ByteArray):=(Z36.l0 k a0 ([]:List Int) 0).bind λy2=>some (QY y2)
def Z36.C (k:Nat):Cal->Option CArm:=λc=>match c with
 |.f 97=>some (.p [(.int .u8)] _ (λx=>Z73.F x.1) (λr=>(.t (.int .u8) r)))
 |_=>none
def Z36.sp0:List Sp:=[.t 0 .str,.own 3 1024 5 (.int .u8) false true,.t 4 (.int .i64)]
def Z36.sp0_0:List Sp:=[.own 3 1024 5 (.int .u8) false true]
def Z36.A0:LArm:=.one Z36.sp0 Z36.sp0_0 ((List Int)) (λk x=>Z36.l0 k x.1 x.2.1 x.2.2.1) (.exit 0) (λy=>(y,())) (λx=>x.1)
def Z36.L:Nat->Option LArm:=λb=>match b with
 |0=>some Z36.A0
 |_=>none
theorem Z36.run (k:Nat)(a0:ByteArray):Qm Q0 (Q8 (Z36.C k)) (Q6 21 k Z36.L) Tryz.f57 [.t .str a0] (Q5 (.t .str))=Z36.F k a0:=by kernel_rfl
theorem Z36.step0 (k:Nat)(x0:ByteArray)(x3:List Int)(x4:Int):Qs Q0 (Q8 (Z36.C k)) (Q6 21 k Z36.L) 0 (Qh Tryz.f57 0) (QA 21 Z36.sp0 (x0,x3,x4,())) (Z36.A0.cont 21 k)=Z36.l0 (k+1) x0 x3 x4:=by kernel_rfl
theorem Z36.G (hE:EnvOk Tryz.prog Q0)(pv:Nat->Value)(k:Nat):∀cal A,Z36.C k cal=some A->Qc Tryz.prog Q0 pv cal A:=by
 intro cal A h
 unfold Z36.C at h
 split at h
 ·cases h;exact λx y hy=>Z73.good hE pv x.1 hy
 ·cases h
theorem Z36.good (hE:EnvOk Tryz.prog Q0)(pv:Nat->Value)(k:Nat)(a0:ByteArray){y:_}(h:Z36.F k a0=some y):Qd Tryz.prog Q0 pv (.f 57) (Q7 [.str] (a0,())) (.t .str y):=
 Qj hE (t:=Z36.C) k (λk _=>Z36.G hE pv k) (f:=57) (fn:=Tryz.f57) (by kernel_rfl) rfl (by kernel_rfl) (by kernel_rfl) (lt:=Z36.L) (by kernel_rfl) (λb A h=>by
  unfold Z36.L at h;split at h
  ·cases h;exact⟨by kernel_rfl,by kernel_rfl,λ_=>rfl,λ_=>rfl⟩
  ·cases h) (λb A h=>by
  unfold Z36.L at h;split at h
  ·cases h;exact λk x=>Z36.step0 k x.1 x.2.1 x.2.2.1
  ·cases h) ((Z36.run k a0).trans h) (λr hr=>Q1 hr)
def Z108.F (a0:Cur)(a1:ByteArray)(a2:ByteArray):Option (Cur×ByteArray):=bif (Qr a1 (⟨#[]⟩:ByteArray))then(bif decide (0<=1)then(bif decide (1<=(a2.size:Int))then(some (a0,(a2.extract 0 (1:Int).toNat)))else none)else none)else((Z5.F a0 (a1.size:Int)).bind λr1=>(Z5.F r1.1 (a2.size:Int)).bind λr2=>bif decide (0<=r2.2)then(bif decide (r2.2<=(a2.size:Int))then(bif decide (0<=1)then(bif decide (1<=((a2.extract (r2.2:Int).toNat a2.size).size:Int))then((Z5.F r2.1 3).bind λr3=>bif (r3.2==0)then(bif decide (0<=r1.2)then(bif decide (r1.2<=(a1.size:Int))then(bif Nat.ble ((a1.extract 0 (r1.2:Int).toNat).size+((a2.extract (r2.2:Int).toNat a2.size).extract 0 (1:Int).toNat).size) 9223372036854775807 then(bif decide (0<=r1.2)then(bif decide (r1.2<=(a1.size:Int))then(bif Nat.ble (((a1.extract 0 (r1.2:Int).toNat)++((a2.extract (r2.2:Int).toNat a2.size).extract 0 (1:Int).toNat)).size+(a1.extract (r1.2:Int).toNat a1.size).size) 9223372036854775807 then(some (r3.1,(((a1.extract 0 (r1.2:Int).toNat)++((a2.extract (r2.2:Int).toNat a2.size).extract 0 (1:Int).toNat))++(a1.extract (r1.2:Int).toNat a1.size))))else none)else none)else none)else none)else none)else none)else(bif (r3.2==1)then(bif decide (0<=r1.2)then(bif decide (r1.2<=(a1.size:Int))then(bif Nat.ble ((a1.extract 0 (r1.2:Int).toNat).size+((a2.extract (r2.2:Int).toNat a2.size).extract 0 (1:Int).toNat).size) 9223372036854775807 then(bif decide (0<=(IntKind.wrap .i64 (r1.2+1)))then(bif decide ((IntKind.wrap .i64 (r1.2+1))<=(a1.size:Int))then(bif Nat.ble (((a1.extract 0 (r1.2:Int).toNat)++((a2.extract (r2.2:Int).toNat a2.size).extract 0 (1:Int).toNat)).size+(a1.extract ((IntKind.wrap .i64 (r1.2+1)):Int).toNat a1.size).size) 9223372036854775807 then(some (r3.1,(((a1.extract 0 (r1.2:Int).toNat)++((a2.extract (r2.2:Int).toNat a2.size).extract 0 (1:Int).toNat))++(a1.extract ((IntKind.wrap .i64 (r1.2+1)):Int).toNat a1.size))))else none)else none)else none)else none)else none)else none)else(bif decide (0<=r1.2)then(bif decide (r1.2<=(a1.size:Int))then(bif decide (0<=(IntKind.wrap .i64 (r1.2+1)))then(bif decide ((IntKind.wrap .i64 (r1.2+1))<=(a1.size:Int))then(bif Nat.ble ((a1.extract 0 (r1.2:Int).toNat).size+(a1.extract ((IntKind.wrap .i64 (r1.2+1)):Int).toNat a1.size).size) 9223372036854775807 then(some (r3.1,((a1.extract 0 (r1.2:Int).toNat)++(a1.extract ((IntKind.wrap .i64 (r1.2+1)):Int).toNat a1.size))))else none)else none)else none)else none)else none)))else none)else none)else none)else none)
def Z108.C:Cal->Option CArm:=λc=>match c with
 |.f 44=>some (.m (.bx .cur) [(.int .i64)] _ (λx0 x=>Z5.F x0 x.1) (λr=>.kep (.bx .cur r.1) (.t (.int .i64) r.2)))
 |_=>none
theorem Z108.run (a0:Cur)(a1:ByteArray)(a2:ByteArray):YB Q0 (Q8 Z108.C) (Q6 57 0 (λ_=>none)) Tryz.f98 Qg (.bx .cur a0) [.t .str a1,.t .str a2] (Yn (.bx .cur) (Q5 (.t .str)))=Z108.F a0 a1 a2:=by kernel_rfl
theorem Z108.G (hE:EnvOk Tryz.prog Q0)(pv:Nat->Value):∀cal A,Z108.C cal=some A->Qc Tryz.prog Q0 pv cal A:=by
 intro cal A h
 unfold Z108.C at h
 split at h
 ·cases h;exact⟨_,rfl,λx0 x y hy=>Z5.good hE pv x0 x.1 hy⟩
 ·cases h
theorem Z108.good (hE:EnvOk Tryz.prog Q0)(pv:Nat->Value)(a0:Cur)(a1:ByteArray)(a2:ByteArray){y:_}(h:Z108.F a0 a1 a2=some y):QF Tryz.prog Q0 pv 98 (.bx .cur a0) (Q7 [.str,.str] (a1,a2,())) (.kep (.bx .cur y.1) (.t .str y.2)):=
 QU hE (Z108.G hE pv) (f:=98) (fn:=Tryz.f98) (by kernel_rfl) rfl (by kernel_rfl) (.inl rfl) (by kernel_rfl) ((Z108.run a0 a1 a2).trans h) (λr hr=>J1 (λr y h=>Q1 h) hr)
def Z80.F (k:Nat)(a0:Cur)(a1:Entry):Option (Cur×Entry):=(Z60.F k a1).bind λr1=>(Z5.F a0 8).bind λr2=>bif (r2.2==0)then((Z108.F r2.1 a1.title (⟨#[97,66,32,45]⟩:ByteArray)).bind λr3=>some (r3.1,(⟨r1.key,r1.kind,r1.authors,r1.editors,r3.2,r1.container,r1.publisher,r1.date,r1.volume,r1.pages,r1.cross⟩:Entry)))else(bif (r2.2==1)then((Z36.F k a1.title).bind λr4=>some (r2.1,(⟨r1.key,r1.kind,r1.authors,r1.editors,r4,r1.container,r1.publisher,r1.date,r1.volume,r1.pages,r1.cross⟩:Entry)))else(bif (r2.2==2)then((Z69.F r2.1).bind λr5=>some (r5.1,(⟨r1.key,r1.kind,r1.authors,r1.editors,r1.title,r1.container,r1.publisher,r5.2,r1.volume,r1.pages,r1.cross⟩:Entry)))else(bif (r2.2==3)then((Z20.F k r2.1).bind λr6=>some (r6.1,(⟨r1.key,r1.kind,r6.2,r1.editors,r1.title,r1.container,r1.publisher,r1.date,r1.volume,r1.pages,r1.cross⟩:Entry)))else(bif (r2.2==4)then((Z61.F k r2.1).bind λr7=>some (r7.1,r7.2))else(bif (r2.2==5)then(some (r2.1,(⟨r1.key,r1.kind,r1.authors,r1.editors,r1.title,r1.container,(⟨#[]⟩:ByteArray),r1.date,0,r1.pages,r1.cross⟩:Entry)))else(some (r2.1,r1)))))))
def Z80.C (k:Nat):Cal->Option CArm:=λc=>match c with
 |.f 50=>some (.p [.entry] _ (λx=>Z60.F k x.1) (λr=>(.t .entry r)))
 |.f 44=>some (.m (.bx .cur) [(.int .i64)] _ (λx0 x=>Z5.F x0 x.1) (λr=>.kep (.bx .cur r.1) (.t (.int .i64) r.2)))
 |.f 98=>some (.m (.bx .cur) [.str,.str] _ (λx0 x=>Z108.F x0 x.1 x.2.1) (λr=>.kep (.bx .cur r.1) (.t .str r.2)))
 |.f 57=>some (.p [.str] _ (λx=>Z36.F k x.1) (λr=>(.t .str r)))
 |.f 99=>some (.m (.bx .cur) [] _ (λx0 x=>Z69.F x0) (λr=>.kep (.bx .cur r.1) (.t .date r.2)))
 |.f 100=>some (.m (.bx .cur) [] _ (λx0 x=>Z20.F k x0) (λr=>.kep (.bx .cur r.1) (.fr 89 .name r.2)))
 |.f 48=>some (.m (.bx .cur) [] _ (λx0 x=>Z61.F k x0) (λr=>.kep (.bx .cur r.1) (.t .entry r.2)))
 |_=>none
theorem Z80.run (k:Nat)(a0:Cur)(a1:Entry):YB Q0 (Q8 (Z80.C k)) (Q6 42 0 (λ_=>none)) Tryz.f61 Qg (.bx .cur a0) [.t .entry a1] (Yn (.bx .cur) (Q5 (.t .entry)))=Z80.F k a0 a1:=by kernel_rfl
theorem Z80.G (hE:EnvOk Tryz.prog Q0)(pv:Nat->Value)(k:Nat):∀cal A,Z80.C k cal=some A->Qc Tryz.prog Q0 pv cal A:=by
 intro cal A h
 unfold Z80.C at h
 split at h
 ·cases h;exact λx y hy=>Z60.good hE pv k x.1 hy
 ·cases h;exact⟨_,rfl,λx0 x y hy=>Z5.good hE pv x0 x.1 hy⟩
 ·cases h;exact⟨_,rfl,λx0 x y hy=>Z108.good hE pv x0 x.1 x.2.1 hy⟩
 ·cases h;exact λx y hy=>Z36.good hE pv k x.1 hy
 ·cases h;exact⟨_,rfl,λx0 x y hy=>Z69.good hE pv x0 hy⟩
 ·cases h;exact⟨_,rfl,λx0 x y hy=>Z20.good hE pv k x0 hy⟩
 ·cases h;exact⟨_,rfl,λx0 x y hy=>Z61.good hE pv k x0 hy⟩
 ·cases h
theorem Z80.good (hE:EnvOk Tryz.prog Q0)(pv:Nat->Value)(k:Nat)(a0:Cur)(a1:Entry){y:_}(h:Z80.F k a0 a1=some y):QF Tryz.prog Q0 pv 61 (.bx .cur a0) (Q7 [.entry] (a1,())) (.kep (.bx .cur y.1) (.t .entry y.2)):=
 QU hE (Z80.G hE pv k) (f:=61) (fn:=Tryz.f61) (by kernel_rfl) rfl (by kernel_rfl) (.inl rfl) (by kernel_rfl) ((Z80.run k a0 a1).trans h) (λr hr=>J1 (λr y h=>Q1 h) hr)
def Z81.F (k:Nat)(a0:Cur):Option (Cur×Library):=(Z41.F k a0).bind λr1=>bif ((r1.2.entries.length:Int)==0)then(some (r1.1,(⟨r1.2.entries⟩:Library)))else(bif (decide ((r1.2.entries.length:Int) > 6))then(some (r1.1,(⟨r1.2.entries⟩:Library)))else((Z9.F k (⟨r1.2.entries⟩:Library)).bind λr2=>bif (!r2)then(some (r1.1,(⟨r1.2.entries⟩:Library)))else((Z5.F r1.1 (r1.2.entries.length:Int)).bind λr3=>bif decide (0<=r3.2)then(bif decide (r3.2<(r1.2.entries.length:Int))then((Z80.F k r3.1 (r1.2.entries.getD ((r3.2:Int).toNat) (Q4 .entry))).bind λr4=>(Z11.F r4.1 ([(⟨#[97,97,97]⟩:ByteArray),(⟨#[122,122,122]⟩:ByteArray),(⟨#[109,109,49]⟩:ByteArray)]:List ByteArray)).bind λr5=>(Z62.F k (⟨r5.2,r4.2.kind,r4.2.authors,r4.2.editors,r4.2.title,r4.2.container,r4.2.publisher,r4.2.date,r4.2.volume,r4.2.pages,r4.2.cross⟩:Entry)).bind λr6=>bif r6 then((Z12.F k (⟨r1.2.entries⟩:Library) (⟨r5.2,r4.2.kind,r4.2.authors,r4.2.editors,r4.2.title,r4.2.container,r4.2.publisher,r4.2.date,r4.2.volume,r4.2.pages,r4.2.cross⟩:Entry)).bind λr7=>some (r5.1,(⟨r7.entries⟩:Library)))else(some (r5.1,(⟨r1.2.entries⟩:Library))))else none)else none)))
def Z81.C (k:Nat):Cal->Option CArm:=λc=>match c with
 |.f 47=>some (.m (.bx .cur) [] _ (λx0 x=>Z41.F k x0) (λr=>.kep (.bx .cur r.1) (sfV 48 .lib r.2)))
 |.f 27=>some (.p [.lib] _ (λx=>Z9.F k x.1) (λr=>(.t .bool r)))
 |.f 44=>some (.m (.bx .cur) [(.int .i64)] _ (λx0 x=>Z5.F x0 x.1) (λr=>.kep (.bx .cur r.1) (.t (.int .i64) r.2)))
 |.f 61=>some (.m (.bx .cur) [.entry] _ (λx0 x=>Z80.F k x0 x.1) (λr=>.kep (.bx .cur r.1) (.t .entry r.2)))
 |.f 77=>some (.m (.bx .cur) [(.sl .str)] _ (λx0 x=>Z11.F x0 x.1) (λr=>.kep (.bx .cur r.1) (.t .str r.2)))
 |.f 56=>some (.p [.entry] _ (λx=>Z62.F k x.1) (λr=>(.t .bool r)))
 |.f 51=>some (.p [.lib,.entry] _ (λx=>Z12.F k x.1 x.2.1) (λr=>(sfV 48 .lib r)))
 |_=>none
theorem Z81.run (k:Nat)(a0:Cur):YB Q0 (Q8 (Z81.C k)) (Q6 44 0 (λ_=>none)) Tryz.f42 Qg (.bx .cur a0) [] (Yn (.bx .cur) (Q5 (.t .lib)))=Z81.F k a0:=by kernel_rfl
theorem Z81.G (hE:EnvOk Tryz.prog Q0)(pv:Nat->Value)(k:Nat):∀cal A,Z81.C k cal=some A->Qc Tryz.prog Q0 pv cal A:=by
 intro cal A h
 unfold Z81.C at h
 split at h
 ·cases h;exact⟨_,rfl,λx0 x y hy=>Z41.good hE pv k x0 hy⟩
 ·cases h;exact λx y hy=>Z9.good hE pv k x.1 hy
 ·cases h;exact⟨_,rfl,λx0 x y hy=>Z5.good hE pv x0 x.1 hy⟩
 ·cases h;exact⟨_,rfl,λx0 x y hy=>Z80.good hE pv k x0 x.1 hy⟩
 ·cases h;exact⟨_,rfl,λx0 x y hy=>Z11.good hE pv x0 x.1 hy⟩
 ·cases h;exact λx y hy=>Z62.good hE pv k x.1 hy
 ·cases h;exact λx y hy=>Z12.good hE pv k x.1 x.2.1 hy
 ·cases h
theorem Z81.good (hE:EnvOk Tryz.prog Q0)(pv:Nat->Value)(k:Nat)(a0:Cur){y:_}(h:Z81.F k a0=some y):QF Tryz.prog Q0 pv 42 (.bx .cur a0) (Q7 [] (())) (.kep (.bx .cur y.1) (.t .lib y.2)):=
 QU hE (Z81.G hE pv k) (f:=42) (fn:=Tryz.f42) (by kernel_rfl) rfl (by kernel_rfl) (.inl rfl) (by kernel_rfl) ((Z81.run k a0).trans h) (λr hr=>J1 (λr y h=>Q1 h) hr)
def Z109.F (k:Nat)(a0:List Int):Option (Library×Int):=(Z81.F k (⟨a0,0,0⟩:Cur)).bind λr1=>(Z5.F r1.1 24).bind λr2=>bif (11==0)then(none)else(bif decide (0<=(IntKind.wrap .i64 (5+(IntKind.wrap .i64 (Int.tdiv r2.2 11)))))then(bif decide ((IntKind.wrap .i64 (5+(IntKind.wrap .i64 (Int.tdiv r2.2 11))))<=(([0,1,2,5,40,(-1),41]:List Int).length:Int))then((Z57.F r2.1 (([0,1,2,5,40,(-1),41]:List Int).take ((IntKind.wrap .i64 (5+(IntKind.wrap .i64 (Int.tdiv r2.2 11)))):Int).toNat)).bind λr3=>some (r1.2,r3.2))else none)else none)
def Z109.C (k:Nat):Cal->Option CArm:=λc=>match c with
 |.f 42=>some (.m (.bx .cur) [] _ (λx0 x=>Z81.F k x0) (λr=>.kep (.bx .cur r.1) (.t .lib r.2)))
 |.f 44=>some (.m (.bx .cur) [(.int .i64)] _ (λx0 x=>Z5.F x0 x.1) (λr=>.kep (.bx .cur r.1) (.t (.int .i64) r.2)))
 |.f 43=>some (.m (.bx .cur) [(.sl (.int .i64))] _ (λx0 x=>Z57.F x0 x.1) (λr=>.kep (.bx .cur r.1) (.t (.int .i64) r.2)))
 |_=>none
theorem Z109.run (k:Nat)(a0:List Int):Qm Q0 (Q8 (Z109.C k)) (Q6 18 0 (λ_=>none)) Tryz.f15 [.t (.sl (.int .u8)) a0] (Uc (.t .lib) (.t (.int .i64)))=Z109.F k a0:=by kernel_rfl
theorem Z109.G (hE:EnvOk Tryz.prog Q0)(pv:Nat->Value)(k:Nat):∀cal A,Z109.C k cal=some A->Qc Tryz.prog Q0 pv cal A:=by
 intro cal A h
 unfold Z109.C at h
 split at h
 ·cases h;exact⟨_,rfl,λx0 x y hy=>Z81.good hE pv k x0 hy⟩
 ·cases h;exact⟨_,rfl,λx0 x y hy=>Z5.good hE pv x0 x.1 hy⟩
 ·cases h;exact⟨_,rfl,λx0 x y hy=>Z57.good hE pv x0 x.1 hy⟩
 ·cases h
theorem Z109.good (hE:EnvOk Tryz.prog Q0)(pv:Nat->Value)(k:Nat)(a0:List Int){y:_}(h:Z109.F k a0=some y):Qd Tryz.prog Q0 pv (.f 15) (Q7 [(.sl (.int .u8))] (a0,())) (.tup [.t .lib y.1,.t (.int .i64) y.2]):=
 Qb hE (Z109.G hE pv k) (f:=15) (fn:=Tryz.f15) (by kernel_rfl) rfl (by kernel_rfl) (by kernel_rfl) ((Z109.run k a0).trans h) (λr hr=>Yw hr)
def Z110.F (k:Nat)(a0:Entry)(a1:Entry)(a2:Int):Option (Bool×Bool):=(Z59.F k a0).bind λr1=>bif (!r1)then(some (false,false))else((Z59.F k a1).bind λr2=>bif (!r2)then(some (false,false))else((Z52.F a2 0 40).bind λr3=>bif (!r3)then(some (false,false))else((Z70.F k a0 a1 a2).bind λr4=>some (r4,true))))
def Z110.C (k:Nat):Cal->Option CArm:=λc=>match c with
 |.f 45=>some (.p [.entry] _ (λx=>Z59.F k x.1) (λr=>(.t .bool r)))
 |.f 33=>some (.p [(.int .i64),(.int .i64),(.int .i64)] _ (λx=>Z52.F x.1 x.2.1 x.2.2.1) (λr=>(.t .bool r)))
 |.f 35=>some (.p [.entry,.entry,(.int .i64)] _ (λx=>Z70.F k x.1 x.2.1 x.2.2.1) (λr=>(.t .bool r)))
 |_=>none
theorem Z110.run (k:Nat)(a0:Entry)(a1:Entry)(a2:Int):Qm Q0 (Q8 (Z110.C k)) (Q6 25 0 (λ_=>none)) Tryz.f16 [.t .entry a0,.t .entry a1,.t (.int .i64) a2] (Uc (.t .bool) (.t .bool))=Z110.F k a0 a1 a2:=by kernel_rfl
theorem Z110.G (hE:EnvOk Tryz.prog Q0)(pv:Nat->Value)(k:Nat):∀cal A,Z110.C k cal=some A->Qc Tryz.prog Q0 pv cal A:=by
 intro cal A h
 unfold Z110.C at h
 split at h
 ·cases h;exact λx y hy=>Z59.good hE pv k x.1 hy
 ·cases h;exact λx y hy=>Z52.good hE pv x.1 x.2.1 x.2.2.1 hy
 ·cases h;exact λx y hy=>Z70.good hE pv k x.1 x.2.1 x.2.2.1 hy
 ·cases h
theorem Z110.good (hE:EnvOk Tryz.prog Q0)(pv:Nat->Value)(k:Nat)(a0:Entry)(a1:Entry)(a2:Int){y:_}(h:Z110.F k a0 a1 a2=some y):Qd Tryz.prog Q0 pv (.f 16) (Q7 [.entry,.entry,(.int .i64)] (a0,a1,a2,())) (.tup [.t .bool y.1,.t .bool y.2]):=
 Qb hE (Z110.G hE pv k) (f:=16) (fn:=Tryz.f16) (by kernel_rfl) rfl (by kernel_rfl) (by kernel_rfl) ((Z110.run k a0 a1 a2).trans h) (λr hr=>Yw hr)
def Z37.l0:Nat->(List ByteArray)->ByteArray->Int->Option (Sum Bool Unit)
 |0,_,_,_=>none
 |k+1,x0,x1,x5=>bif (decide (x5<(x0.length:Int)))then(bif decide (0<=x5)then(bif decide (x5<(x0.length:Int))then(bif (Qr (x0.getD (x5:Int).toNat (⟨#[]⟩:ByteArray)) x1)then(some (.inl true))else(Z37.l0 k x0 x1 (IntKind.wrap .i64 (x5+1))))else none)else none)else(some (.inr ()))
def Z37.F (k:Nat)(a0:List ByteArray)(a1:ByteArray):Option (Bool):=(Z37.l0 k a0 a1 0).bind λy1=>match y1 with|.inl z2=>some z2|.inr z2=>some false
def Z37.C (k:Nat):Cal->Option CArm:=λc=>match c with
 |_=>none
def Z37.sp0:List Sp:=[.t 0 (.sl .str),.t 1 .str,.t 5 (.int .i64)]
def Z37.sp0_0:List Sp:=[.t 4 .bool]
def Z37.sp0_1:List Sp:=[]
def Z37.A0:LArm:=.two Z37.sp0 Z37.sp0_0 Z37.sp0_1 (Bool) (Unit) (λk x=>Z37.l0 k x.1 x.2.1 x.2.2.1) .ret (.exit 0) (λy=>(y,())) (λx=>x.1) (λy=>()) (λx=>())
def Z37.L:Nat->Option LArm:=λb=>match b with
 |0=>some Z37.A0
 |_=>none
theorem Z37.run (k:Nat)(a0:List ByteArray)(a1:ByteArray):Qm Q0 (Q8 (Z37.C k)) (Q6 18 k Z37.L) Tryz.f46 [.t (.sl .str) a0,.t .str a1] (Q5 (.t .bool))=Z37.F k a0 a1:=by kernel_rfl
theorem Z37.step0 (k:Nat)(x0:List ByteArray)(x1:ByteArray)(x5:Int):Qs Q0 (Q8 (Z37.C k)) (Q6 18 k Z37.L) 0 (Qh Tryz.f46 0) (QA 18 Z37.sp0 (x0,x1,x5,())) (Z37.A0.cont 18 k)=Z37.l0 (k+1) x0 x1 x5:=by kernel_rfl
theorem Z37.G (hE:EnvOk Tryz.prog Q0)(pv:Nat->Value)(k:Nat):∀cal A,Z37.C k cal=some A->Qc Tryz.prog Q0 pv cal A:=by
 intro cal A h
 unfold Z37.C at h
 cases h
theorem Z37.good (hE:EnvOk Tryz.prog Q0)(pv:Nat->Value)(k:Nat)(a0:List ByteArray)(a1:ByteArray){y:_}(h:Z37.F k a0 a1=some y):Qd Tryz.prog Q0 pv (.f 46) (Q7 [(.sl .str),.str] (a0,a1,())) (.t .bool y):=
 Qj hE (t:=Z37.C) k (λk _=>Z37.G hE pv k) (f:=46) (fn:=Tryz.f46) (by kernel_rfl) rfl (by kernel_rfl) (by kernel_rfl) (lt:=Z37.L) (by kernel_rfl) (λb A h=>by
  unfold Z37.L at h;split at h
  ·cases h;exact⟨by kernel_rfl,by kernel_rfl,by kernel_rfl,λ_=>rfl,λ_=>rfl,λ_=>rfl⟩
  ·cases h) (λb A h=>by
  unfold Z37.L at h;split at h
  ·cases h;exact λk x=>Z37.step0 k x.1 x.2.1 x.2.2.1
  ·cases h) ((Z37.run k a0 a1).trans h) (λr hr=>Q1 hr)
def Z42.l0:Nat->(List (List ByteArray))->ByteArray->ByteArray->Int->Option (Sum Bool Unit)
 |0,_,_,_,_=>none
 |k+1,x0,x1,x2,x7=>bif (decide (x7<(x0.length:Int)))then(bif decide (0<=x7)then(bif decide (x7<(x0.length:Int))then((Z37.F k (x0.getD (x7:Int).toNat []) x1).bind λr1=>bif r1 then(bif decide (0<=x7)then(bif decide (x7<(x0.length:Int))then((Z37.F k (x0.getD (x7:Int).toNat []) x2).bind λr2=>some (.inl r2))else none)else none)else(Z42.l0 k x0 x1 x2 (IntKind.wrap .i64 (x7+1))))else none)else none)else(some (.inr ()))
def Z42.F (k:Nat)(a0:List (List ByteArray))(a1:ByteArray)(a2:ByteArray):Option (Bool):=(Z42.l0 k a0 a1 a2 0).bind λy3=>match y3 with|.inl z4=>some z4|.inr z4=>some false
def Z42.C (k:Nat):Cal->Option CArm:=λc=>match c with
 |.f 46=>some (.p [(.sl .str),.str] _ (λx=>Z37.F k x.1 x.2.1) (λr=>(.t .bool r)))
 |_=>none
def Z42.sp0:List Sp:=[.t 0 (.sl (.sl .str)),.t 1 .str,.t 2 .str,.t 7 (.int .i64)]
def Z42.sp0_0:List Sp:=[.t 6 .bool]
def Z42.sp0_1:List Sp:=[]
def Z42.A0:LArm:=.two Z42.sp0 Z42.sp0_0 Z42.sp0_1 (Bool) (Unit) (λk x=>Z42.l0 k x.1 x.2.1 x.2.2.1 x.2.2.2.1) .ret (.exit 0) (λy=>(y,())) (λx=>x.1) (λy=>()) (λx=>())
def Z42.L:Nat->Option LArm:=λb=>match b with
 |0=>some Z42.A0
 |_=>none
theorem Z42.run (k:Nat)(a0:List (List ByteArray))(a1:ByteArray)(a2:ByteArray):Qm Q0 (Q8 (Z42.C k)) (Q6 26 k Z42.L) Tryz.f17 [.t (.sl (.sl .str)) a0,.t .str a1,.t .str a2] (Q5 (.t .bool))=Z42.F k a0 a1 a2:=by kernel_rfl
theorem Z42.step0 (k:Nat)(x0:List (List ByteArray))(x1:ByteArray)(x2:ByteArray)(x7:Int):Qs Q0 (Q8 (Z42.C k)) (Q6 26 k Z42.L) 0 (Qh Tryz.f17 0) (QA 26 Z42.sp0 (x0,x1,x2,x7,())) (Z42.A0.cont 26 k)=Z42.l0 (k+1) x0 x1 x2 x7:=by kernel_rfl
theorem Z42.G (hE:EnvOk Tryz.prog Q0)(pv:Nat->Value)(k:Nat):∀cal A,Z42.C k cal=some A->Qc Tryz.prog Q0 pv cal A:=by
 intro cal A h
 unfold Z42.C at h
 split at h
 ·cases h;exact λx y hy=>Z37.good hE pv k x.1 x.2.1 hy
 ·cases h
theorem Z42.good (hE:EnvOk Tryz.prog Q0)(pv:Nat->Value)(k:Nat)(a0:List (List ByteArray))(a1:ByteArray)(a2:ByteArray){y:_}(h:Z42.F k a0 a1 a2=some y):Qd Tryz.prog Q0 pv (.f 17) (Q7 [(.sl (.sl .str)),.str,.str] (a0,a1,a2,())) (.t .bool y):=
 Qj hE (t:=Z42.C) k (λk _=>Z42.G hE pv k) (f:=17) (fn:=Tryz.f17) (by kernel_rfl) rfl (by kernel_rfl) (by kernel_rfl) (lt:=Z42.L) (by kernel_rfl) (λb A h=>by
  unfold Z42.L at h;split at h
  ·cases h;exact⟨by kernel_rfl,by kernel_rfl,by kernel_rfl,λ_=>rfl,λ_=>rfl,λ_=>rfl⟩
  ·cases h) (λb A h=>by
  unfold Z42.L at h;split at h
  ·cases h;exact λk x=>Z42.step0 k x.1 x.2.1 x.2.2.1 x.2.2.2.1
  ·cases h) ((Z42.run k a0 a1 a2).trans h) (λr hr=>Q1 hr)
def Z13.l0:Nat->ByteArray->Library->Int->Option (Sum Int Unit)
 |0,_,_,_=>none
 |k+1,x1,x2,x5=>bif (decide (x5<(x2.entries.length:Int)))then(bif decide (0<=x5)then(bif decide (x5<(x2.entries.length:Int))then(bif (Qr ((x2.entries.getD (x5:Int).toNat (Q4 .entry)).key) x1)then(some (.inl x5))else(Z13.l0 k x1 x2 (IntKind.wrap .i64 (x5+1))))else none)else none)else(some (.inr ()))
def Z13.F (k:Nat)(a0:Library)(a1:ByteArray):Option (Int):=(Z13.l0 k a1 a0 0).bind λy1=>match y1 with|.inl z2=>some z2|.inr z2=>some (-1)
def Z13.C (k:Nat):Cal->Option CArm:=λc=>match c with
 |_=>none
def Z13.sp0:List Sp:=[.t 1 .str,.boxT 2 0 .lib,.t 5 (.int .i64)]
def Z13.sp0_0:List Sp:=[.t 4 (.int .i64)]
def Z13.sp0_1:List Sp:=[]
def Z13.A0:LArm:=.two Z13.sp0 Z13.sp0_0 Z13.sp0_1 (Int) (Unit) (λk x=>Z13.l0 k x.1 x.2.1 x.2.2.1) .ret (.exit 0) (λy=>(y,())) (λx=>x.1) (λy=>()) (λx=>())
def Z13.L:Nat->Option LArm:=λb=>match b with
 |0=>some Z13.A0
 |_=>none
theorem Z13.run (k:Nat)(a0:Library)(a1:ByteArray):Qm Q0 (Q8 (Z13.C k)) (Q6 22 k Z13.L) Tryz.f60 [.t .lib a0,.t .str a1] (Q5 (.t (.int .i64)))=Z13.F k a0 a1:=by kernel_rfl
theorem Z13.step0 (k:Nat)(x1:ByteArray)(x2:Library)(x5:Int):Qs Q0 (Q8 (Z13.C k)) (Q6 22 k Z13.L) 0 (Qh Tryz.f60 0) (QA 22 Z13.sp0 (x1,x2,x5,())) (Z13.A0.cont 22 k)=Z13.l0 (k+1) x1 x2 x5:=by kernel_rfl
theorem Z13.G (hE:EnvOk Tryz.prog Q0)(pv:Nat->Value)(k:Nat):∀cal A,Z13.C k cal=some A->Qc Tryz.prog Q0 pv cal A:=by
 intro cal A h
 unfold Z13.C at h
 cases h
theorem Z13.good (hE:EnvOk Tryz.prog Q0)(pv:Nat->Value)(k:Nat)(a0:Library)(a1:ByteArray){y:_}(h:Z13.F k a0 a1=some y):Qd Tryz.prog Q0 pv (.f 60) (Q7 [.lib,.str] (a0,a1,())) (.t (.int .i64) y):=
 Qj hE (t:=Z13.C) k (λk _=>Z13.G hE pv k) (f:=60) (fn:=Tryz.f60) (by kernel_rfl) rfl (by kernel_rfl) (by kernel_rfl) (lt:=Z13.L) (by kernel_rfl) (λb A h=>by
  unfold Z13.L at h;split at h
  ·cases h;exact⟨by kernel_rfl,by kernel_rfl,by kernel_rfl,λ_=>rfl,λ_=>rfl,λ_=>rfl⟩
  ·cases h) (λb A h=>by
  unfold Z13.L at h;split at h
  ·cases h;exact λk x=>Z13.step0 k x.1 x.2.1 x.2.2.1
  ·cases h) ((Z13.run k a0 a1).trans h) (λr hr=>Q1 hr)
def Z6.l0:Nat->Library->Entry->ByteArray->ByteArray->Int->Option (Library×Entry×ByteArray)
 |0,_,_,_,_,_=>none
 |k+1,x2,x3,x6,x7,x8=>bif (decide (x8<(x7.size:Int)))then(bif (decide ((x6.size:Int)<6))then(bif decide (0<=x8)then(bif decide (x8<(x7.size:Int))then((Z77.F (bt x7 (x8:Int).toNat)).bind λr4=>bif r4 then(bif decide (0<=(IntKind.wrap .i64 (x8+1)))then(bif decide ((IntKind.wrap .i64 (x8+1))<=(x7.size:Int))then(bif decide (0<=x8)then(bif decide (x8<=(IntKind.wrap .i64 (x8+1)))then(bif Nat.ble (x6.size+(x7.extract (x8:Int).toNat ((IntKind.wrap .i64 (x8+1)):Int).toNat).size) 9223372036854775807 then(Z6.l0 k x2 x3 (x6++(x7.extract (x8:Int).toNat ((IntKind.wrap .i64 (x8+1)):Int).toNat)) x7 (IntKind.wrap .i64 (x8+1)))else none)else none)else none)else none)else none)else(Z6.l0 k x2 x3 x6 x7 (IntKind.wrap .i64 (x8+1))))else none)else none)else(some (x2,x3,x6)))else(some (x2,x3,x6))
def Z6.l2:Nat->Library->ByteArray->Int->Option (ByteArray×Bool)
 |0,_,_,_=>none
 |k+1,x2,x6,x9=>bif Nat.ble (x6.size+(QY ([x9]:List Int)).size) 9223372036854775807 then((Z13.F k x2 (x6++(QY ([x9]:List Int)))).bind λr20=>bif (decide (r20<0))then(some ((x6++(QY ([x9]:List Int))),true))else(Z6.l2 k x2 x6 (IntKind.wrap .u8 (x9+1))))else none
def Z6.F (k:Nat)(a0:Library)(a1:Entry):Option (ByteArray×Bool):=(Z9.F k a0).bind λr1=>bif (!r1)then(some ((⟨#[]⟩:ByteArray),false))else((Z62.F k a1).bind λr2=>bif (!r2)then(some ((⟨#[]⟩:ByteArray),false))else(bif (decide ((a1.authors.length:Int) > 0))then(bif decide (0<=0)then(bif decide (0<(a1.authors.length:Int))then((Z36.F k ((a1.authors.getD (0:Int).toNat (Q4 .name)).family)).bind λr3=>(Z6.l0 k a0 a1 (⟨#[]⟩:ByteArray) r3 0).bind λy5=>bif (y5.2.1.date.y==0)then(bif Nat.ble (y5.2.2.size+(⟨#[110,100]⟩:ByteArray).size) 9223372036854775807 then((Z13.F k y5.1 (y5.2.2++(⟨#[110,100]⟩:ByteArray))).bind λr6=>bif (decide (r6<0))then(some ((y5.2.2++(⟨#[110,100]⟩:ByteArray)),true))else((Z6.l2 k y5.1 (y5.2.2++(⟨#[110,100]⟩:ByteArray)) 97).bind λy8=>some (y8.1,y8.2)))else none)else(bif (10==0)then(none)else(bif (10==0)then(none)else((Z54.F k (Int.tmod (IntKind.wrap .i64 (Int.tdiv y5.2.1.date.y 10)) 10)).bind λr9=>bif Nat.ble (y5.2.2.size+r9.size) 9223372036854775807 then(bif (10==0)then(none)else((Z54.F k (Int.tmod y5.2.1.date.y 10)).bind λr10=>bif Nat.ble ((y5.2.2++r9).size+r10.size) 9223372036854775807 then((Z13.F k y5.1 ((y5.2.2++r9)++r10)).bind λr11=>bif (decide (r11<0))then(some (((y5.2.2++r9)++r10),true))else((Z6.l2 k y5.1 ((y5.2.2++r9)++r10) 97).bind λy13=>some (y13.1,y13.2)))else none))else none))))else none)else none)else(bif (a1.date.y==0)then(bif Nat.ble ((⟨#[97,110,111,110]⟩:ByteArray).size+(⟨#[110,100]⟩:ByteArray).size) 9223372036854775807 then((Z13.F k a0 ((⟨#[97,110,111,110]⟩:ByteArray)++(⟨#[110,100]⟩:ByteArray))).bind λr14=>bif (decide (r14<0))then(some (((⟨#[97,110,111,110]⟩:ByteArray)++(⟨#[110,100]⟩:ByteArray)),true))else((Z6.l2 k a0 ((⟨#[97,110,111,110]⟩:ByteArray)++(⟨#[110,100]⟩:ByteArray)) 97).bind λy16=>some (y16.1,y16.2)))else none)else(bif (10==0)then(none)else(bif (10==0)then(none)else((Z54.F k (Int.tmod (IntKind.wrap .i64 (Int.tdiv a1.date.y 10)) 10)).bind λr17=>bif Nat.ble ((⟨#[97,110,111,110]⟩:ByteArray).size+r17.size) 9223372036854775807 then(bif (10==0)then(none)else((Z54.F k (Int.tmod a1.date.y 10)).bind λr18=>bif Nat.ble (((⟨#[97,110,111,110]⟩:ByteArray)++r17).size+r18.size) 9223372036854775807 then((Z13.F k a0 (((⟨#[97,110,111,110]⟩:ByteArray)++r17)++r18)).bind λr19=>bif (decide (r19<0))then(some ((((⟨#[97,110,111,110]⟩:ByteArray)++r17)++r18),true))else((Z6.l2 k a0 (((⟨#[97,110,111,110]⟩:ByteArray)++r17)++r18) 97).bind λy21=>some (y21.1,y21.2)))else none))else none))))))
def Z6.C (k:Nat):Cal->Option CArm:=λc=>match c with
 |.f 27=>some (.p [.lib] _ (λx=>Z9.F k x.1) (λr=>(.t .bool r)))
 |.f 56=>some (.p [.entry] _ (λx=>Z62.F k x.1) (λr=>(.t .bool r)))
 |.f 57=>some (.p [.str] _ (λx=>Z36.F k x.1) (λr=>(.t .str r)))
 |.f 58=>some (.p [(.int .u8)] _ (λx=>Z77.F x.1) (λr=>(.t .bool r)))
 |.f 60=>some (.p [.lib,.str] _ (λx=>Z13.F k x.1 x.2.1) (λr=>(.t (.int .i64) r)))
 |.f 59=>some (.p [(.int .i64)] _ (λx=>Z54.F k x.1) (λr=>(.t .str r)))
 |_=>none
def Z6.sp0:List Sp:=[.boxT 2 0 .lib,.boxT 3 4 .entry,.t 6 .str,.t 7 .str,.t 8 (.int .i64)]
def Z6.sp0_0:List Sp:=[.boxT 2 0 .lib,.boxT 3 4 .entry,.t 6 .str]
def Z6.A0:LArm:=.one Z6.sp0 Z6.sp0_0 (Library×Entry×ByteArray) (λk x=>Z6.l0 k x.1 x.2.1 x.2.2.1 x.2.2.2.1 x.2.2.2.2.1) (.exit 0) (λy=>(y.1,y.2.1,y.2.2,())) (λx=>(x.1,x.2.1,x.2.2.1))
def Z6.sp2:List Sp:=[.boxT 2 0 .lib,.t 6 .str,.t 9 (.int .u8)]
def Z6.sp2_0:List Sp:=[.t 4 .str,.t 5 .bool]
def Z6.A2:LArm:=.one Z6.sp2 Z6.sp2_0 (ByteArray×Bool) (λk x=>Z6.l2 k x.1 x.2.1 x.2.2.1) .ret (λy=>(y.1,y.2,())) (λx=>(x.1,x.2.1))
def Z6.L:Nat->Option LArm:=λb=>match b with
 |0=>some Z6.A0
 |2=>some Z6.A2
 |_=>none
theorem Z6.run (k:Nat)(a0:Library)(a1:Entry):Qm Q0 (Q8 (Z6.C k)) (Q6 88 k Z6.L) Tryz.f20 [.t .lib a0,.t .entry a1] (Uc (.t .str) (.t .bool))=Z6.F k a0 a1:=by kernel_rfl
theorem Z6.step0 (k:Nat)(x2:Library)(x3:Entry)(x6:ByteArray)(x7:ByteArray)(x8:Int):Qs Q0 (Q8 (Z6.C k)) (Q6 88 k Z6.L) 0 (Qh Tryz.f20 0) (QA 88 Z6.sp0 (x2,x3,x6,x7,x8,())) (Z6.A0.cont 88 k)=Z6.l0 (k+1) x2 x3 x6 x7 x8:=by kernel_rfl
theorem Z6.step2 (k:Nat)(x2:Library)(x6:ByteArray)(x9:Int):Qs Q0 (Q8 (Z6.C k)) (Q6 88 k Z6.L) 2 (Qh Tryz.f20 2) (QA 88 Z6.sp2 (x2,x6,x9,())) (Z6.A2.cont 88 k)=Z6.l2 (k+1) x2 x6 x9:=by kernel_rfl
theorem Z6.G (hE:EnvOk Tryz.prog Q0)(pv:Nat->Value)(k:Nat):∀cal A,Z6.C k cal=some A->Qc Tryz.prog Q0 pv cal A:=by
 intro cal A h
 unfold Z6.C at h
 split at h
 ·cases h;exact λx y hy=>Z9.good hE pv k x.1 hy
 ·cases h;exact λx y hy=>Z62.good hE pv k x.1 hy
 ·cases h;exact λx y hy=>Z36.good hE pv k x.1 hy
 ·cases h;exact λx y hy=>Z77.good hE pv x.1 hy
 ·cases h;exact λx y hy=>Z13.good hE pv k x.1 x.2.1 hy
 ·cases h;exact λx y hy=>Z54.good hE pv k x.1 hy
 ·cases h
theorem Z6.good (hE:EnvOk Tryz.prog Q0)(pv:Nat->Value)(k:Nat)(a0:Library)(a1:Entry){y:_}(h:Z6.F k a0 a1=some y):Qd Tryz.prog Q0 pv (.f 20) (Q7 [.lib,.entry] (a0,a1,())) (.tup [.t .str y.1,.t .bool y.2]):=
 Qj hE (t:=Z6.C) k (λk _=>Z6.G hE pv k) (f:=20) (fn:=Tryz.f20) (by kernel_rfl) rfl (by kernel_rfl) (by kernel_rfl) (lt:=Z6.L) (by kernel_rfl) (λb A h=>by
  unfold Z6.L at h;split at h
  ·cases h;exact⟨by kernel_rfl,by kernel_rfl,λ_=>rfl,λ_=>rfl⟩
  ·cases h;exact⟨by kernel_rfl,by kernel_rfl,λ_=>rfl,λ_=>rfl⟩
  ·cases h) (λb A h=>by
  unfold Z6.L at h;split at h
  ·cases h;exact λk x=>Z6.step0 k x.1 x.2.1 x.2.2.1 x.2.2.2.1 x.2.2.2.2.1
  ·cases h;exact λk x=>Z6.step2 k x.1 x.2.1 x.2.2.1
  ·cases h) ((Z6.run k a0 a1).trans h) (λr hr=>Yw hr)
def Z111.F (k:Nat)(a0:List Int):Option (Library×Entry):=(Z41.F k (⟨a0,0,0⟩:Cur)).bind λr1=>(Z61.F k r1.1).bind λr2=>(Z6.F k (⟨([]:List Entry)⟩:Library) r2.2).bind λr3=>bif r3.2 then(bif (decide ((r1.2.entries.length:Int) > 0))then((Z40.F r2.1 2).bind λr4=>bif r4.2 then(bif decide (0<=0)then(bif decide (0<(r1.2.entries.length:Int))then((Z60.F k (r1.2.entries.getD ((0:Int).toNat) (Q4 .entry))).bind λr5=>bif (!Qr r5.cross r3.1)then((Z9.F k (⟨r1.2.entries⟩:Library)).bind λr6=>bif r6 then(bif (decide ((r1.2.entries.length:Int)<8))then((Z12.F k (⟨r1.2.entries⟩:Library) (⟨r3.1,r5.kind,r5.authors,r5.editors,r5.title,r5.container,r5.publisher,r5.date,r5.volume,r5.pages,r5.cross⟩:Entry)).bind λr7=>some ((⟨r7.entries⟩:Library),r2.2))else(some ((⟨r1.2.entries⟩:Library),r2.2)))else(some ((⟨r1.2.entries⟩:Library),r2.2)))else(some ((⟨r1.2.entries⟩:Library),r2.2)))else none)else none)else(some ((⟨r1.2.entries⟩:Library),r2.2)))else(some ((⟨r1.2.entries⟩:Library),r2.2)))else(some ((⟨r1.2.entries⟩:Library),r2.2))
def Z111.C (k:Nat):Cal->Option CArm:=λc=>match c with
 |.f 47=>some (.m (.bx .cur) [] _ (λx0 x=>Z41.F k x0) (λr=>.kep (.bx .cur r.1) (sfV 48 .lib r.2)))
 |.f 48=>some (.m (.bx .cur) [] _ (λx0 x=>Z61.F k x0) (λr=>.kep (.bx .cur r.1) (.t .entry r.2)))
 |.f 20=>some (.p [.lib,.entry] _ (λx=>Z6.F k x.1 x.2.1) (λr=>(.tup [.t .str r.1,.t .bool r.2])))
 |.f 49=>some (.m (.bx .cur) [(.int .i64)] _ (λx0 x=>Z40.F x0 x.1) (λr=>.kep (.bx .cur r.1) (.t .bool r.2)))
 |.f 50=>some (.p [.entry] _ (λx=>Z60.F k x.1) (λr=>(.t .entry r)))
 |.f 27=>some (.p [.lib] _ (λx=>Z9.F k x.1) (λr=>(.t .bool r)))
 |.f 51=>some (.p [.lib,.entry] _ (λx=>Z12.F k x.1 x.2.1) (λr=>(sfV 48 .lib r)))
 |_=>none
theorem Z111.run (k:Nat)(a0:List Int):Qm Q0 (Q8 (Z111.C k)) (Q6 60 0 (λ_=>none)) Tryz.f18 [.t (.sl (.int .u8)) a0] (Uc (.sf .lib 48) (.t .entry))=Z111.F k a0:=by kernel_rfl
theorem Z111.G (hE:EnvOk Tryz.prog Q0)(pv:Nat->Value)(k:Nat):∀cal A,Z111.C k cal=some A->Qc Tryz.prog Q0 pv cal A:=by
 intro cal A h
 unfold Z111.C at h
 split at h
 ·cases h;exact⟨_,rfl,λx0 x y hy=>Z41.good hE pv k x0 hy⟩
 ·cases h;exact⟨_,rfl,λx0 x y hy=>Z61.good hE pv k x0 hy⟩
 ·cases h;exact λx y hy=>Z6.good hE pv k x.1 x.2.1 hy
 ·cases h;exact⟨_,rfl,λx0 x y hy=>Z40.good hE pv x0 x.1 hy⟩
 ·cases h;exact λx y hy=>Z60.good hE pv k x.1 hy
 ·cases h;exact λx y hy=>Z9.good hE pv k x.1 hy
 ·cases h;exact λx y hy=>Z12.good hE pv k x.1 x.2.1 hy
 ·cases h
theorem Z111.good (hE:EnvOk Tryz.prog Q0)(pv:Nat->Value)(k:Nat)(a0:List Int){y:_}(h:Z111.F k a0=some y):Qd Tryz.prog Q0 pv (.f 18) (Q7 [(.sl (.int .u8))] (a0,())) (.tup [sfV 48 .lib y.1,.t .entry y.2]):=
 Qb hE (Z111.G hE pv k) (f:=18) (fn:=Tryz.f18) (by kernel_rfl) rfl (by kernel_rfl) (by kernel_rfl) ((Z111.run k a0).trans h) (λr hr=>Yw hr)
def Z47.l0:Nat->ByteArray->Int->(List Int)->Int->Option ((List Int))
 |0,_,_,_,_=>none
 |k+1,x0,x1,x5,x6=>bif (decide (x6<(x0.size:Int)))then(bif (decide ((x5.length:Int)<x1))then(bif decide (0<=x6)then(bif decide (x6<(x0.size:Int))then((Z65.F (bt x0 (x6:Int).toNat)).bind λr1=>bif r1 then(bif decide (0<=x6)then(bif decide (x6<(x0.size:Int))then(bif room (x5.length+([(bt x0 (x6:Int).toNat)]:List Int).length) (.int .u8)then(Z47.l0 k x0 x1 (x5++([(bt x0 (x6:Int).toNat)]:List Int)) (IntKind.wrap .i64 (x6+1)))else none)else none)else none)else(Z47.l0 k x0 x1 x5 (IntKind.wrap .i64 (x6+1))))else none)else none)else(some x5))else(some x5)
def Z47.F (k:Nat)(a0:ByteArray)(a1:Int):Option (ByteArray):=(Z47.l0 k a0 a1 ([]:List Int) 0).bind λy2=>some (QY y2)
def Z47.C (k:Nat):Cal->Option CArm:=λc=>match c with
 |.f 89=>some (.p [(.int .u8)] _ (λx=>Z65.F x.1) (λr=>(.t .bool r)))
 |_=>none
def Z47.sp0:List Sp:=[.t 0 .str,.t 1 (.int .i64),.own 5 1024 5 (.int .u8) false true,.t 6 (.int .i64)]
def Z47.sp0_0:List Sp:=[.own 5 1024 5 (.int .u8) false true]
def Z47.A0:LArm:=.one Z47.sp0 Z47.sp0_0 ((List Int)) (λk x=>Z47.l0 k x.1 x.2.1 x.2.2.1 x.2.2.2.1) (.exit 0) (λy=>(y,())) (λx=>x.1)
def Z47.L:Nat->Option LArm:=λb=>match b with
 |0=>some Z47.A0
 |_=>none
theorem Z47.run (k:Nat)(a0:ByteArray)(a1:Int):Qm Q0 (Q8 (Z47.C k)) (Q6 32 k Z47.L) Tryz.f53 [.t .str a0,.t (.int .i64) a1] (Q5 (.t .str))=Z47.F k a0 a1:=by kernel_rfl
theorem Z47.step0 (k:Nat)(x0:ByteArray)(x1:Int)(x5:List Int)(x6:Int):Qs Q0 (Q8 (Z47.C k)) (Q6 32 k Z47.L) 0 (Qh Tryz.f53 0) (QA 32 Z47.sp0 (x0,x1,x5,x6,())) (Z47.A0.cont 32 k)=Z47.l0 (k+1) x0 x1 x5 x6:=by kernel_rfl
theorem Z47.G (hE:EnvOk Tryz.prog Q0)(pv:Nat->Value)(k:Nat):∀cal A,Z47.C k cal=some A->Qc Tryz.prog Q0 pv cal A:=by
 intro cal A h
 unfold Z47.C at h
 split at h
 ·cases h;exact λx y hy=>Z65.good hE pv x.1 hy
 ·cases h
theorem Z47.good (hE:EnvOk Tryz.prog Q0)(pv:Nat->Value)(k:Nat)(a0:ByteArray)(a1:Int){y:_}(h:Z47.F k a0 a1=some y):Qd Tryz.prog Q0 pv (.f 53) (Q7 [.str,(.int .i64)] (a0,a1,())) (.t .str y):=
 Qj hE (t:=Z47.C) k (λk _=>Z47.G hE pv k) (f:=53) (fn:=Tryz.f53) (by kernel_rfl) rfl (by kernel_rfl) (by kernel_rfl) (lt:=Z47.L) (by kernel_rfl) (λb A h=>by
  unfold Z47.L at h;split at h
  ·cases h;exact⟨by kernel_rfl,by kernel_rfl,λ_=>rfl,λ_=>rfl⟩
  ·cases h) (λb A h=>by
  unfold Z47.L at h;split at h
  ·cases h;exact λk x=>Z47.step0 k x.1 x.2.1 x.2.2.1 x.2.2.2.1
  ·cases h) ((Z47.run k a0 a1).trans h) (λr hr=>Q1 hr)
def Z127.F (a0:Int):Option (ByteArray):=Q6P a0
theorem Z127.good (hE:EnvOk Tryz.prog Q0)(pv:Nat->Value)(a0:Int){y:_}(h:Z127.F a0=some y):Qd Tryz.prog Q0 pv (.f 90) (Q7 [(.int .i64)] (a0,())) (.t .str y):=
 Q9I (fn:=Tryz.f90) (by kernel_rfl) rfl (by kernel_rfl) Tryz.strconv_Itoa_small h
def Z43.l0:Nat->Int->ByteArray->Option (ByteArray)
 |0,_,_=>none
 |k+1,x1,x5=>bif (decide ((x5.size:Int)<x1))then(bif Nat.ble ((⟨#[48]⟩:ByteArray).size+x5.size) 9223372036854775807 then(Z43.l0 k x1 ((⟨#[48]⟩:ByteArray)++x5))else none)else(some x5)
def Z43.F (k:Nat)(a0:Int)(a1:Int):Option (ByteArray):=(Z127.F a0).bind λr1=>(Z43.l0 k a1 r1).bind λy2=>some y2
def Z43.C (k:Nat):Cal->Option CArm:=λc=>match c with
 |.f 90=>some (.p [(.int .i64)] _ (λx=>Z127.F x.1) (λr=>(.t .str r)))
 |_=>none
def Z43.sp0:List Sp:=[.t 1 (.int .i64),.t 5 .str]
def Z43.sp0_0:List Sp:=[.t 5 .str]
def Z43.A0:LArm:=.one Z43.sp0 Z43.sp0_0 (ByteArray) (λk x=>Z43.l0 k x.1 x.2.1) (.exit 0) (λy=>(y,())) (λx=>x.1)
def Z43.L:Nat->Option LArm:=λb=>match b with
 |0=>some Z43.A0
 |_=>none
theorem Z43.run (k:Nat)(a0:Int)(a1:Int):Qm Q0 (Q8 (Z43.C k)) (Q6 15 k Z43.L) Tryz.f54 [.t (.int .i64) a0,.t (.int .i64) a1] (Q5 (.t .str))=Z43.F k a0 a1:=by kernel_rfl
theorem Z43.step0 (k:Nat)(x1:Int)(x5:ByteArray):Qs Q0 (Q8 (Z43.C k)) (Q6 15 k Z43.L) 0 (Qh Tryz.f54 0) (QA 15 Z43.sp0 (x1,x5,())) (Z43.A0.cont 15 k)=Z43.l0 (k+1) x1 x5:=by kernel_rfl
theorem Z43.G (hE:EnvOk Tryz.prog Q0)(pv:Nat->Value)(k:Nat):∀cal A,Z43.C k cal=some A->Qc Tryz.prog Q0 pv cal A:=by
 intro cal A h
 unfold Z43.C at h
 split at h
 ·cases h;exact λx y hy=>Z127.good hE pv x.1 hy
 ·cases h
theorem Z43.good (hE:EnvOk Tryz.prog Q0)(pv:Nat->Value)(k:Nat)(a0:Int)(a1:Int){y:_}(h:Z43.F k a0 a1=some y):Qd Tryz.prog Q0 pv (.f 54) (Q7 [(.int .i64),(.int .i64)] (a0,a1,())) (.t .str y):=
 Qj hE (t:=Z43.C) k (λk _=>Z43.G hE pv k) (f:=54) (fn:=Tryz.f54) (by kernel_rfl) rfl (by kernel_rfl) (by kernel_rfl) (lt:=Z43.L) (by kernel_rfl) (λb A h=>by
  unfold Z43.L at h;split at h
  ·cases h;exact⟨by kernel_rfl,by kernel_rfl,λ_=>rfl,λ_=>rfl⟩
  ·cases h) (λb A h=>by
  unfold Z43.L at h;split at h
  ·cases h;exact λk x=>Z43.step0 k x.1 x.2.1
  ·cases h) ((Z43.run k a0 a1).trans h) (λr hr=>Q1 hr)
def Z121.F (a0:Entry)(a1:ByteArray):Option (Bool):=some (Qr a0.key a1)
def Z121.C:Cal->Option CArm:=λc=>match c with
 |_=>none
theorem Z121.run (a0:Entry)(a1:ByteArray):Qm Q0 (Q8 Z121.C) (Q6 8 0 (λ_=>none)) Tryz.f92 [.t .entry a0,.tp (.t .str a1)] (Q5 (.t .bool))=Z121.F a0 a1:=by kernel_rfl
theorem Z121.G (hE:EnvOk Tryz.prog Q0)(pv:Nat->Value):∀cal A,Z121.C cal=some A->Qc Tryz.prog Q0 pv cal A:=by
 intro cal A h
 unfold Z121.C at h
 cases h
theorem Z121.good (hE:EnvOk Tryz.prog Q0)(pv:Nat->Value)(a0:Entry)(a1:ByteArray){y:_}(h:Z121.F a0 a1=some y):Qd Tryz.prog Q0 pv (.f 92) (YX [.t .entry,.tp .str] (a0,a1,())) (.t .bool y):=
 Qb hE (Z121.G hE pv) (f:=92) (fn:=Tryz.f92) (by kernel_rfl) rfl (by kernel_rfl) (by kernel_rfl) ((Z121.run a0 a1).trans h) (λr hr=>Q1 hr)
def Z44.l0:Nat->(List Entry)->ByteArray->Int->Int->Option (Sum Int Unit)
 |0,_,_,_,_=>none
 |k+1,x0,x1,x7,x8=>bif (decide (x8<x7))then(bif decide (0<=x8)then(bif decide (x8<(x0.length:Int))then((Z121.F (x0.getD (x8:Int).toNat (Q4 .entry)) x1).bind λr1=>bif r1 then(some (.inl x8))else(Z44.l0 k x0 x1 x7 (IntKind.wrap .i64 (x8+1))))else none)else none)else(some (.inr ()))
def Z44.F (k:Nat)(a0:List Entry)(a1c0:ByteArray):Option (Int):=(Z44.l0 k a0 a1c0 (a0.length:Int) 0).bind λy2=>match y2 with|.inl z3=>some z3|.inr z3=>some (-1)
def Z44.C (k:Nat):Cal->Option CArm:=λc=>match c with
 |.f 92=>some (.q [.t .entry,.tp .str] _ (λx=>Z121.F x.1 x.2.1) (λr=>(.t .bool r)))
 |_=>none
def Z44.sp0:List Sp:=[.t 0 (.sl .entry),.cl 1 92 [.tp .str],.t 7 (.int .i64),.t 8 (.int .i64)]
def Z44.sp0_0:List Sp:=[.t 4 (.int .i64)]
def Z44.sp0_1:List Sp:=[]
def Z44.A0:LArm:=.two Z44.sp0 Z44.sp0_0 Z44.sp0_1 (Int) (Unit) (λk x=>Z44.l0 k x.1 x.2.1.1 x.2.2.1 x.2.2.2.1) .ret (.exit 0) (λy=>(y,())) (λx=>x.1) (λy=>()) (λx=>())
def Z44.L:Nat->Option LArm:=λb=>match b with
 |0=>some Z44.A0
 |_=>none
theorem Z44.run (k:Nat)(a0:List Entry)(a1c0:ByteArray):Qm Q0 (Q8 (Z44.C k)) (Q6 19 k Z44.L) Tryz.f91 [.t (.sl .entry) a0,.clo 92 [.tp (.t .str a1c0)]] (Q5 (.t (.int .i64)))=Z44.F k a0 a1c0:=by kernel_rfl
theorem Z44.step0 (k:Nat)(x0:List Entry)(x1:ByteArray)(x7:Int)(x8:Int):Qs Q0 (Q8 (Z44.C k)) (Q6 19 k Z44.L) 0 (Qh Tryz.f91 0) (QA 19 Z44.sp0 (x0,(x1,()),x7,x8,())) (Z44.A0.cont 19 k)=Z44.l0 (k+1) x0 x1 x7 x8:=by kernel_rfl
theorem Z44.G (hE:EnvOk Tryz.prog Q0)(pv:Nat->Value)(k:Nat):∀cal A,Z44.C k cal=some A->Qc Tryz.prog Q0 pv cal A:=by
 intro cal A h
 unfold Z44.C at h
 split at h
 ·cases h;exact λx y hy=>Z121.good hE pv x.1 x.2.1 hy
 ·cases h
theorem Z44.good (hE:EnvOk Tryz.prog Q0)(pv:Nat->Value)(k:Nat)(a0:List Entry)(a1c0:ByteArray){y:_}(h:Z44.F k a0 a1c0=some y):Qd Tryz.prog Q0 pv (.f 91) (YX [.t (.sl .entry),.clo 92 [.tp .str]] (a0,(a1c0,()),())) (.t (.int .i64) y):=
 Qj hE (t:=Z44.C) k (λk _=>Z44.G hE pv k) (f:=91) (fn:=Tryz.f91) (by kernel_rfl) rfl (by kernel_rfl) (by kernel_rfl) (lt:=Z44.L) (by kernel_rfl) (λb A h=>by
  unfold Z44.L at h;split at h
  ·cases h;exact⟨by kernel_rfl,by kernel_rfl,by kernel_rfl,λ_=>rfl,λ_=>rfl,λ_=>rfl⟩
  ·cases h) (λb A h=>by
  unfold Z44.L at h;split at h
  ·cases h;exact λk x=>Z44.step0 k x.1 x.2.1.1 x.2.2.1 x.2.2.2.1
  ·cases h) ((Z44.run k a0 a1c0).trans h) (λr hr=>Q1 hr)
def Z112.F (k:Nat)(a0:Library)(a1:ByteArray):Option (Int):=(Z44.F k a0.entries a1).bind λr1=>some r1
def Z112.C (k:Nat):Cal->Option CArm:=λc=>match c with
 |.f 91=>some (.q [.t (.sl .entry),.clo 92 [.tp .str]] _ (λx=>Z44.F k x.1 x.2.1.1) (λr=>(.t (.int .i64) r)))
 |_=>none
theorem Z112.run (k:Nat)(a0:Library)(a1:ByteArray):Qm Q0 (Q8 (Z112.C k)) (Q6 9 0 (λ_=>none)) Tryz.f55 [.t .lib a0,.t .str a1] (Q5 (.t (.int .i64)))=Z112.F k a0 a1:=by kernel_rfl
theorem Z112.G (hE:EnvOk Tryz.prog Q0)(pv:Nat->Value)(k:Nat):∀cal A,Z112.C k cal=some A->Qc Tryz.prog Q0 pv cal A:=by
 intro cal A h
 unfold Z112.C at h
 split at h
 ·cases h;exact λx y hy=>Z44.good hE pv k x.1 x.2.1.1 hy
 ·cases h
theorem Z112.good (hE:EnvOk Tryz.prog Q0)(pv:Nat->Value)(k:Nat)(a0:Library)(a1:ByteArray){y:_}(h:Z112.F k a0 a1=some y):Qd Tryz.prog Q0 pv (.f 55) (Q7 [.lib,.str] (a0,a1,())) (.t (.int .i64) y):=
 Qb hE (Z112.G hE pv k) (f:=55) (fn:=Tryz.f55) (by kernel_rfl) rfl (by kernel_rfl) (by kernel_rfl) ((Z112.run k a0 a1).trans h) (λr hr=>Q1 hr)
def Z19.l0:Nat->Library->ByteArray->ByteArray->ByteArray->Int->Option (ByteArray)
 |0,_,_,_,_,_=>none
 |k+1,x2,x6,x7,x8,x9=>(Z112.F k x2 x8).bind λr13=>bif (decide (r13 ≥ 0))then(bif Nat.ble (x6.size+x7.size) 9223372036854775807 then(bif Nat.ble ((x6++x7).size+(QY ([x9]:List Int)).size) 9223372036854775807 then(Z19.l0 k x2 x6 x7 ((x6++x7)++(QY ([x9]:List Int))) (IntKind.wrap .u8 (x9+1)))else none)else none)else(some x8)
def Z19.F (k:Nat)(a0:Library)(a1:Entry):Option (ByteArray×Bool):=(Z14.F k a0).bind λr1=>bif (!r1)then(some ((⟨#[]⟩:ByteArray),false))else((Z59.F k a1).bind λr2=>bif (!r2)then(some ((⟨#[]⟩:ByteArray),false))else(bif (decide ((a1.authors.length:Int) > 0))then(bif decide (0<=0)then(bif decide (0<(a1.authors.length:Int))then((Z47.F k ((a1.authors.getD (0:Int).toNat (Q4 .name)).family) 6).bind λr3=>(Z30.F k r3).bind λr4=>bif (decide (a1.date.y > 0))then(bif (100==0)then(none)else((Z43.F k (Int.tmod a1.date.y 100) 2).bind λr5=>bif Nat.ble (r4.size+r5.size) 9223372036854775807 then((Z19.l0 k a0 r4 r5 (r4++r5) 97).bind λy7=>some (y7,true))else none))else(bif Nat.ble (r4.size+(⟨#[110,100]⟩:ByteArray).size) 9223372036854775807 then((Z19.l0 k a0 r4 (⟨#[110,100]⟩:ByteArray) (r4++(⟨#[110,100]⟩:ByteArray)) 97).bind λy9=>some (y9,true))else none))else none)else none)else(bif (decide (a1.date.y > 0))then(bif (100==0)then(none)else((Z43.F k (Int.tmod a1.date.y 100) 2).bind λr10=>bif Nat.ble ((⟨#[97,110,111,110]⟩:ByteArray).size+r10.size) 9223372036854775807 then((Z19.l0 k a0 (⟨#[97,110,111,110]⟩:ByteArray) r10 ((⟨#[97,110,111,110]⟩:ByteArray)++r10) 97).bind λy12=>some (y12,true))else none))else(bif Nat.ble ((⟨#[97,110,111,110]⟩:ByteArray).size+(⟨#[110,100]⟩:ByteArray).size) 9223372036854775807 then((Z19.l0 k a0 (⟨#[97,110,111,110]⟩:ByteArray) (⟨#[110,100]⟩:ByteArray) ((⟨#[97,110,111,110]⟩:ByteArray)++(⟨#[110,100]⟩:ByteArray)) 97).bind λy14=>some (y14,true))else none))))
def Z19.C (k:Nat):Cal->Option CArm:=λc=>match c with
 |.f 32=>some (.p [.lib] _ (λx=>Z14.F k x.1) (λr=>(.t .bool r)))
 |.f 45=>some (.p [.entry] _ (λx=>Z59.F k x.1) (λr=>(.t .bool r)))
 |.f 53=>some (.p [.str,(.int .i64)] _ (λx=>Z47.F k x.1 x.2.1) (λr=>(.t .str r)))
 |.f 52=>some (.p [.str] _ (λx=>Z30.F k x.1) (λr=>(.t .str r)))
 |.f 54=>some (.p [(.int .i64),(.int .i64)] _ (λx=>Z43.F k x.1 x.2.1) (λr=>(.t .str r)))
 |.f 55=>some (.p [.lib,.str] _ (λx=>Z112.F k x.1 x.2.1) (λr=>(.t (.int .i64) r)))
 |_=>none
def Z19.sp0:List Sp:=[.boxT 2 0 .lib,.t 6 .str,.t 7 .str,.t 8 .str,.t 9 (.int .u8)]
def Z19.sp0_0:List Sp:=[.t 8 .str]
def Z19.A0:LArm:=.one Z19.sp0 Z19.sp0_0 (ByteArray) (λk x=>Z19.l0 k x.1 x.2.1 x.2.2.1 x.2.2.2.1 x.2.2.2.2.1) (.exit 0) (λy=>(y,())) (λx=>x.1)
def Z19.L:Nat->Option LArm:=λb=>match b with
 |0=>some Z19.A0
 |_=>none
theorem Z19.run (k:Nat)(a0:Library)(a1:Entry):Qm Q0 (Q8 (Z19.C k)) (Q6 55 k Z19.L) Tryz.f19 [.t .lib a0,.t .entry a1] (Uc (.t .str) (.t .bool))=Z19.F k a0 a1:=by kernel_rfl
theorem Z19.step0 (k:Nat)(x2:Library)(x6:ByteArray)(x7:ByteArray)(x8:ByteArray)(x9:Int):Qs Q0 (Q8 (Z19.C k)) (Q6 55 k Z19.L) 0 (Qh Tryz.f19 0) (QA 55 Z19.sp0 (x2,x6,x7,x8,x9,())) (Z19.A0.cont 55 k)=Z19.l0 (k+1) x2 x6 x7 x8 x9:=by kernel_rfl
theorem Z19.G (hE:EnvOk Tryz.prog Q0)(pv:Nat->Value)(k:Nat):∀cal A,Z19.C k cal=some A->Qc Tryz.prog Q0 pv cal A:=by
 intro cal A h
 unfold Z19.C at h
 split at h
 ·cases h;exact λx y hy=>Z14.good hE pv k x.1 hy
 ·cases h;exact λx y hy=>Z59.good hE pv k x.1 hy
 ·cases h;exact λx y hy=>Z47.good hE pv k x.1 x.2.1 hy
 ·cases h;exact λx y hy=>Z30.good hE pv k x.1 hy
 ·cases h;exact λx y hy=>Z43.good hE pv k x.1 x.2.1 hy
 ·cases h;exact λx y hy=>Z112.good hE pv k x.1 x.2.1 hy
 ·cases h
theorem Z19.good (hE:EnvOk Tryz.prog Q0)(pv:Nat->Value)(k:Nat)(a0:Library)(a1:Entry){y:_}(h:Z19.F k a0 a1=some y):Qd Tryz.prog Q0 pv (.f 19) (Q7 [.lib,.entry] (a0,a1,())) (.tup [.t .str y.1,.t .bool y.2]):=
 Qj hE (t:=Z19.C) k (λk _=>Z19.G hE pv k) (f:=19) (fn:=Tryz.f19) (by kernel_rfl) rfl (by kernel_rfl) (by kernel_rfl) (lt:=Z19.L) (by kernel_rfl) (λb A h=>by
  unfold Z19.L at h;split at h
  ·cases h;exact⟨by kernel_rfl,by kernel_rfl,λ_=>rfl,λ_=>rfl⟩
  ·cases h) (λb A h=>by
  unfold Z19.L at h;split at h
  ·cases h;exact λk x=>Z19.step0 k x.1 x.2.1 x.2.2.1 x.2.2.2.1 x.2.2.2.2.1
  ·cases h) ((Z19.run k a0 a1).trans h) (λr hr=>Yw hr)
def Z113.F (k:Nat)(a0:Library)(a1:ByteArray):Option (Int×Bool):=(Z9.F k a0).bind λr1=>bif (!r1)then(some (0,false))else((Z13.F k a0 a1).bind λr2=>bif (decide (r2<0))then(some (0,false))else((Z13.F k a0 a1).bind λr3=>some (r3,true)))
def Z113.C (k:Nat):Cal->Option CArm:=λc=>match c with
 |.f 27=>some (.p [.lib] _ (λx=>Z9.F k x.1) (λr=>(.t .bool r)))
 |.f 60=>some (.p [.lib,.str] _ (λx=>Z13.F k x.1 x.2.1) (λr=>(.t (.int .i64) r)))
 |_=>none
theorem Z113.run (k:Nat)(a0:Library)(a1:ByteArray):Qm Q0 (Q8 (Z113.C k)) (Q6 18 0 (λ_=>none)) Tryz.f21 [.t .lib a0,.t .str a1] (Uc (.t (.int .i64)) (.t .bool))=Z113.F k a0 a1:=by kernel_rfl
theorem Z113.G (hE:EnvOk Tryz.prog Q0)(pv:Nat->Value)(k:Nat):∀cal A,Z113.C k cal=some A->Qc Tryz.prog Q0 pv cal A:=by
 intro cal A h
 unfold Z113.C at h
 split at h
 ·cases h;exact λx y hy=>Z9.good hE pv k x.1 hy
 ·cases h;exact λx y hy=>Z13.good hE pv k x.1 x.2.1 hy
 ·cases h
theorem Z113.good (hE:EnvOk Tryz.prog Q0)(pv:Nat->Value)(k:Nat)(a0:Library)(a1:ByteArray){y:_}(h:Z113.F k a0 a1=some y):Qd Tryz.prog Q0 pv (.f 21) (Q7 [.lib,.str] (a0,a1,())) (.tup [.t (.int .i64) y.1,.t .bool y.2]):=
 Qb hE (Z113.G hE pv k) (f:=21) (fn:=Tryz.f21) (by kernel_rfl) rfl (by kernel_rfl) (by kernel_rfl) ((Z113.run k a0 a1).trans h) (λr hr=>Yw hr)
def Z86.F (k:Nat)(a0:List Int):Option (Library×Entry):=(Z81.F k (⟨a0,0,0⟩:Cur)).bind λr1=>bif (decide ((r1.2.entries.length:Int) > 0))then((Z40.F r1.1 2).bind λr2=>bif r2.2 then((Z5.F r2.1 (r1.2.entries.length:Int)).bind λr3=>bif decide (0<=r3.2)then(bif decide (r3.2<(r1.2.entries.length:Int))then((Z80.F k r3.1 (r1.2.entries.getD (r3.2:Int).toNat (Q4 .entry))).bind λr4=>some (r1.2,r4.2))else none)else none)else((Z61.F k r2.1).bind λr5=>some (r1.2,r5.2)))else((Z61.F k r1.1).bind λr6=>some (r1.2,r6.2))
def Z86.C (k:Nat):Cal->Option CArm:=λc=>match c with
 |.f 42=>some (.m (.bx .cur) [] _ (λx0 x=>Z81.F k x0) (λr=>.kep (.bx .cur r.1) (.t .lib r.2)))
 |.f 49=>some (.m (.bx .cur) [(.int .i64)] _ (λx0 x=>Z40.F x0 x.1) (λr=>.kep (.bx .cur r.1) (.t .bool r.2)))
 |.f 44=>some (.m (.bx .cur) [(.int .i64)] _ (λx0 x=>Z5.F x0 x.1) (λr=>.kep (.bx .cur r.1) (.t (.int .i64) r.2)))
 |.f 61=>some (.m (.bx .cur) [.entry] _ (λx0 x=>Z80.F k x0 x.1) (λr=>.kep (.bx .cur r.1) (.t .entry r.2)))
 |.f 48=>some (.m (.bx .cur) [] _ (λx0 x=>Z61.F k x0) (λr=>.kep (.bx .cur r.1) (.t .entry r.2)))
 |_=>none
theorem Z86.run (k:Nat)(a0:List Int):Qm Q0 (Q8 (Z86.C k)) (Q6 34 0 (λ_=>none)) Tryz.f22 [.t (.sl (.int .u8)) a0] (Uc (.t .lib) (.t .entry))=Z86.F k a0:=by kernel_rfl
theorem Z86.G (hE:EnvOk Tryz.prog Q0)(pv:Nat->Value)(k:Nat):∀cal A,Z86.C k cal=some A->Qc Tryz.prog Q0 pv cal A:=by
 intro cal A h
 unfold Z86.C at h
 split at h
 ·cases h;exact⟨_,rfl,λx0 x y hy=>Z81.good hE pv k x0 hy⟩
 ·cases h;exact⟨_,rfl,λx0 x y hy=>Z40.good hE pv x0 x.1 hy⟩
 ·cases h;exact⟨_,rfl,λx0 x y hy=>Z5.good hE pv x0 x.1 hy⟩
 ·cases h;exact⟨_,rfl,λx0 x y hy=>Z80.good hE pv k x0 x.1 hy⟩
 ·cases h;exact⟨_,rfl,λx0 x y hy=>Z61.good hE pv k x0 hy⟩
 ·cases h
theorem Z86.good (hE:EnvOk Tryz.prog Q0)(pv:Nat->Value)(k:Nat)(a0:List Int){y:_}(h:Z86.F k a0=some y):Qd Tryz.prog Q0 pv (.f 22) (Q7 [(.sl (.int .u8))] (a0,())) (.tup [.t .lib y.1,.t .entry y.2]):=
 Qb hE (Z86.G hE pv k) (f:=22) (fn:=Tryz.f22) (by kernel_rfl) rfl (by kernel_rfl) (by kernel_rfl) ((Z86.run k a0).trans h) (λr hr=>Yw hr)
def Z26.l0:Nat->Entry->ByteArray->Int->(List Entry)->Int->Int->Option (ByteArray×Int)
 |0,_,_,_,_,_,_=>none
 |k+1,x3,x7,x8,x27,x28,x29=>bif (decide (x29<x28))then(bif decide (0<=x29)then(bif decide (x29<(x27.length:Int))then((Z3.F k ((x27.getD (x29:Int).toNat (Q4 .entry)).title) x3.title).bind λr3=>bif (decide (x8<0))then(Z26.l0 k x3 ((x27.getD (x29:Int).toNat (Q4 .entry)).key) r3 x27 x28 (IntKind.wrap .i64 (x29+1)))else(bif (decide (r3<x8))then(Z26.l0 k x3 ((x27.getD (x29:Int).toNat (Q4 .entry)).key) r3 x27 x28 (IntKind.wrap .i64 (x29+1)))else(Z26.l0 k x3 x7 x8 x27 x28 (IntKind.wrap .i64 (x29+1)))))else none)else none)else(some (x7,x8))
def Z26.F (k:Nat)(a0:Library)(a1:Entry):Option (ByteArray×Int×Bool):=(Z14.F k a0).bind λr1=>bif (!r1)then(some ((⟨#[]⟩:ByteArray),0,false))else((Z59.F k a1).bind λr2=>bif (!r2)then(some ((⟨#[]⟩:ByteArray),0,false))else(bif ((a0.entries.length:Int)==0)then(some ((⟨#[]⟩:ByteArray),0,false))else((Z26.l0 k a1 (⟨#[]⟩:ByteArray) (-1) a0.entries (a0.entries.length:Int) 0).bind λy4=>some (y4.1,y4.2,true))))
def Z26.C (k:Nat):Cal->Option CArm:=λc=>match c with
 |.f 32=>some (.p [.lib] _ (λx=>Z14.F k x.1) (λr=>(.t .bool r)))
 |.f 45=>some (.p [.entry] _ (λx=>Z59.F k x.1) (λr=>(.t .bool r)))
 |.f 62=>some (.p [.str,.str] _ (λx=>Z3.F k x.1 x.2.1) (λr=>(.t (.int .i64) r)))
 |_=>none
def Z26.sp0:List Sp:=[.boxT 3 4 .entry,.t 7 .str,.t 8 (.int .i64),.t 27 (.sl .entry),.t 28 (.int .i64),.t 29 (.int .i64)]
def Z26.sp0_0:List Sp:=[.t 7 .str,.t 8 (.int .i64)]
def Z26.A0:LArm:=.one Z26.sp0 Z26.sp0_0 (ByteArray×Int) (λk x=>Z26.l0 k x.1 x.2.1 x.2.2.1 x.2.2.2.1 x.2.2.2.2.1 x.2.2.2.2.2.1) (.exit 0) (λy=>(y.1,y.2,())) (λx=>(x.1,x.2.1))
def Z26.L:Nat->Option LArm:=λb=>match b with
 |0=>some Z26.A0
 |_=>none
theorem Z26.run (k:Nat)(a0:Library)(a1:Entry):Qm Q0 (Q8 (Z26.C k)) (Q6 51 k Z26.L) Tryz.f23 [.t .lib a0,.t .entry a1] (Q2Y (.t .str) (.t (.int .i64)) (.t .bool))=Z26.F k a0 a1:=by kernel_rfl
theorem Z26.step0 (k:Nat)(x3:Entry)(x7:ByteArray)(x8:Int)(x27:List Entry)(x28:Int)(x29:Int):Qs Q0 (Q8 (Z26.C k)) (Q6 51 k Z26.L) 0 (Qh Tryz.f23 0) (QA 51 Z26.sp0 (x3,x7,x8,x27,x28,x29,())) (Z26.A0.cont 51 k)=Z26.l0 (k+1) x3 x7 x8 x27 x28 x29:=by kernel_rfl
theorem Z26.G (hE:EnvOk Tryz.prog Q0)(pv:Nat->Value)(k:Nat):∀cal A,Z26.C k cal=some A->Qc Tryz.prog Q0 pv cal A:=by
 intro cal A h
 unfold Z26.C at h
 split at h
 ·cases h;exact λx y hy=>Z14.good hE pv k x.1 hy
 ·cases h;exact λx y hy=>Z59.good hE pv k x.1 hy
 ·cases h;exact λx y hy=>Z3.good hE pv k x.1 x.2.1 hy
 ·cases h
theorem Z26.good (hE:EnvOk Tryz.prog Q0)(pv:Nat->Value)(k:Nat)(a0:Library)(a1:Entry){y:_}(h:Z26.F k a0 a1=some y):Qd Tryz.prog Q0 pv (.f 23) (Q7 [.lib,.entry] (a0,a1,())) (.tup [.t .str y.1,.t (.int .i64) y.2.1,.t .bool y.2.2]):=
 Qj hE (t:=Z26.C) k (λk _=>Z26.G hE pv k) (f:=23) (fn:=Tryz.f23) (by kernel_rfl) rfl (by kernel_rfl) (by kernel_rfl) (lt:=Z26.L) (by kernel_rfl) (λb A h=>by
  unfold Z26.L at h;split at h
  ·cases h;exact⟨by kernel_rfl,by kernel_rfl,λ_=>rfl,λ_=>rfl⟩
  ·cases h) (λb A h=>by
  unfold Z26.L at h;split at h
  ·cases h;exact λk x=>Z26.step0 k x.1 x.2.1 x.2.2.1 x.2.2.2.1 x.2.2.2.2.1 x.2.2.2.2.2.1
  ·cases h) ((Z26.run k a0 a1).trans h) (λr hr=>Q4y hr)
def Z34.l0:Nat->Library->Entry->Int->Int->Option (Library×Entry×Int)
 |0,_,_,_,_=>none
 |k+1,x2,x3,x7,x8=>bif (decide (x8<(x2.entries.length:Int)))then(bif decide (0<=x8)then(bif decide (x8<(x2.entries.length:Int))then((Z63.F k ((x2.entries.getD (x8:Int).toNat (Q4 .entry)).title) x3.title).bind λr3=>bif decide (0<=x7)then(bif decide (x7<(x2.entries.length:Int))then((Z63.F k ((x2.entries.getD (x7:Int).toNat (Q4 .entry)).title) x3.title).bind λr4=>bif (decide (r3<r4))then(Z34.l0 k x2 x3 x8 (IntKind.wrap .i64 (x8+1)))else(Z34.l0 k x2 x3 x7 (IntKind.wrap .i64 (x8+1))))else none)else none)else none)else none)else(some (x2,x3,x7))
def Z34.F (k:Nat)(a0:Library)(a1:Entry):Option (ByteArray×Int×Bool):=(Z9.F k a0).bind λr1=>bif (!r1)then(some ((⟨#[]⟩:ByteArray),0,false))else((Z62.F k a1).bind λr2=>bif (!r2)then(some ((⟨#[]⟩:ByteArray),0,false))else(bif ((a0.entries.length:Int)==0)then(some ((⟨#[]⟩:ByteArray),0,false))else((Z34.l0 k a0 a1 0 1).bind λy5=>bif decide (0<=y5.2.2)then(bif decide (y5.2.2<(y5.1.entries.length:Int))then(bif decide (0<=y5.2.2)then(bif decide (y5.2.2<(y5.1.entries.length:Int))then((Z63.F k ((y5.1.entries.getD (y5.2.2:Int).toNat (Q4 .entry)).title) y5.2.1.title).bind λr6=>some ((y5.1.entries.getD (y5.2.2:Int).toNat (Q4 .entry)).key,r6,true))else none)else none)else none)else none)))
def Z34.C (k:Nat):Cal->Option CArm:=λc=>match c with
 |.f 27=>some (.p [.lib] _ (λx=>Z9.F k x.1) (λr=>(.t .bool r)))
 |.f 56=>some (.p [.entry] _ (λx=>Z62.F k x.1) (λr=>(.t .bool r)))
 |.f 63=>some (.p [.str,.str] _ (λx=>Z63.F k x.1 x.2.1) (λr=>(.t (.int .i64) r)))
 |_=>none
def Z34.sp0:List Sp:=[.boxT 2 0 .lib,.boxT 3 4 .entry,.t 7 (.int .i64),.t 8 (.int .i64)]
def Z34.sp0_0:List Sp:=[.boxT 2 0 .lib,.boxT 3 4 .entry,.t 7 (.int .i64)]
def Z34.A0:LArm:=.one Z34.sp0 Z34.sp0_0 (Library×Entry×Int) (λk x=>Z34.l0 k x.1 x.2.1 x.2.2.1 x.2.2.2.1) (.exit 0) (λy=>(y.1,y.2.1,y.2.2,())) (λx=>(x.1,x.2.1,x.2.2.1))
def Z34.L:Nat->Option LArm:=λb=>match b with
 |0=>some Z34.A0
 |_=>none
theorem Z34.run (k:Nat)(a0:Library)(a1:Entry):Qm Q0 (Q8 (Z34.C k)) (Q6 65 k Z34.L) Tryz.f24 [.t .lib a0,.t .entry a1] (Q2Y (.t .str) (.t (.int .i64)) (.t .bool))=Z34.F k a0 a1:=by kernel_rfl
theorem Z34.step0 (k:Nat)(x2:Library)(x3:Entry)(x7:Int)(x8:Int):Qs Q0 (Q8 (Z34.C k)) (Q6 65 k Z34.L) 0 (Qh Tryz.f24 0) (QA 65 Z34.sp0 (x2,x3,x7,x8,())) (Z34.A0.cont 65 k)=Z34.l0 (k+1) x2 x3 x7 x8:=by kernel_rfl
theorem Z34.G (hE:EnvOk Tryz.prog Q0)(pv:Nat->Value)(k:Nat):∀cal A,Z34.C k cal=some A->Qc Tryz.prog Q0 pv cal A:=by
 intro cal A h
 unfold Z34.C at h
 split at h
 ·cases h;exact λx y hy=>Z9.good hE pv k x.1 hy
 ·cases h;exact λx y hy=>Z62.good hE pv k x.1 hy
 ·cases h;exact λx y hy=>Z63.good hE pv k x.1 x.2.1 hy
 ·cases h
theorem Z34.good (hE:EnvOk Tryz.prog Q0)(pv:Nat->Value)(k:Nat)(a0:Library)(a1:Entry){y:_}(h:Z34.F k a0 a1=some y):Qd Tryz.prog Q0 pv (.f 24) (Q7 [.lib,.entry] (a0,a1,())) (.tup [.t .str y.1,.t (.int .i64) y.2.1,.t .bool y.2.2]):=
 Qj hE (t:=Z34.C) k (λk _=>Z34.G hE pv k) (f:=24) (fn:=Tryz.f24) (by kernel_rfl) rfl (by kernel_rfl) (by kernel_rfl) (lt:=Z34.L) (by kernel_rfl) (λb A h=>by
  unfold Z34.L at h;split at h
  ·cases h;exact⟨by kernel_rfl,by kernel_rfl,λ_=>rfl,λ_=>rfl⟩
  ·cases h) (λb A h=>by
  unfold Z34.L at h;split at h
  ·cases h;exact λk x=>Z34.step0 k x.1 x.2.1 x.2.2.1 x.2.2.2.1
  ·cases h) ((Z34.run k a0 a1).trans h) (λr hr=>Q4y hr)
def Z114.F (k:Nat)(a0:ByteArray)(a1:ByteArray):Option (Int×Bool):=(Z68.F k a0).bind λr1=>bif (!r1)then(some (0,false))else((Z68.F k a1).bind λr2=>bif (!r2)then(some (0,false))else((Z3.F k a0 a1).bind λr3=>some (r3,true)))
def Z114.C (k:Nat):Cal->Option CArm:=λc=>match c with
 |.f 64=>some (.p [.str] _ (λx=>Z68.F k x.1) (λr=>(.t .bool r)))
 |.f 62=>some (.p [.str,.str] _ (λx=>Z3.F k x.1 x.2.1) (λr=>(.t (.int .i64) r)))
 |_=>none
theorem Z114.run (k:Nat)(a0:ByteArray)(a1:ByteArray):Qm Q0 (Q8 (Z114.C k)) (Q6 17 0 (λ_=>none)) Tryz.f25 [.t .str a0,.t .str a1] (Uc (.t (.int .i64)) (.t .bool))=Z114.F k a0 a1:=by kernel_rfl
theorem Z114.G (hE:EnvOk Tryz.prog Q0)(pv:Nat->Value)(k:Nat):∀cal A,Z114.C k cal=some A->Qc Tryz.prog Q0 pv cal A:=by
 intro cal A h
 unfold Z114.C at h
 split at h
 ·cases h;exact λx y hy=>Z68.good hE pv k x.1 hy
 ·cases h;exact λx y hy=>Z3.good hE pv k x.1 x.2.1 hy
 ·cases h
theorem Z114.good (hE:EnvOk Tryz.prog Q0)(pv:Nat->Value)(k:Nat)(a0:ByteArray)(a1:ByteArray){y:_}(h:Z114.F k a0 a1=some y):Qd Tryz.prog Q0 pv (.f 25) (Q7 [.str,.str] (a0,a1,())) (.tup [.t (.int .i64) y.1,.t .bool y.2]):=
 Qb hE (Z114.G hE pv k) (f:=25) (fn:=Tryz.f25) (by kernel_rfl) rfl (by kernel_rfl) (by kernel_rfl) ((Z114.run k a0 a1).trans h) (λr hr=>Yw hr)
def Z2.l2:Nat->(List Int)->Library->Int->(List (List ByteArray))->Bool->Int->Int->Option (Sum Bool ((List Int)×Library×Int× (List (List ByteArray))×Bool×Int))
 |0,_,_,_,_,_,_,_=>none
 |k+1,x0,x3,x4,x5,x6,x9,x10=>bif (decide (x10<x9))then(bif decide (0<=x10)then(bif decide (x10<(x3.entries.length:Int))then(bif decide (0<=x9)then(bif decide (x9<(x3.entries.length:Int))then((Z110.F k (x3.entries.getD (x10:Int).toNat (Q4 .entry)) (x3.entries.getD (x9:Int).toNat (Q4 .entry)) x4).bind λr5=>bif (!r5.2)then(some (.inl false))else(bif r5.1 then(bif decide (0<=x10)then(bif decide (x10<(x3.entries.length:Int))then(bif decide (0<=x9)then(bif decide (x9<(x3.entries.length:Int))then((Z42.F k x5 ((x3.entries.getD (x10:Int).toNat (Q4 .entry)).key) ((x3.entries.getD (x9:Int).toNat (Q4 .entry)).key)).bind λr6=>bif (!r6)then(some (.inl false))else(Z2.l2 k x0 x3 x4 x5 x6 x9 (IntKind.wrap .i64 (x10+1))))else none)else none)else none)else none)else(Z2.l2 k x0 x3 x4 x5 x6 x9 (IntKind.wrap .i64 (x10+1)))))else none)else none)else none)else none)else(some (.inr (x0,x3,x4,x5,x6,x9)))
def Z2.l0:Nat->(List Int)->Library->Int->(List (List ByteArray))->Bool->Int->Option (Sum Bool (List Int))
 |0,_,_,_,_,_,_=>none
 |k+1,x0,x3,x4,x5,x6,x9=>bif (decide (x9<(x3.entries.length:Int)))then(bif x6 then((Z2.l2 k x0 x3 x4 x5 x6 x9 0).bind λy7=>match y7 with|.inl z8=>some (.inl z8)|.inr z8=>Z2.l0 k z8.1 z8.2.1 z8.2.2.1 z8.2.2.2.1 z8.2.2.2.2.1 (IntKind.wrap .i64 (z8.2.2.2.2.2+1)))else(some (.inr x0)))else(some (.inr x0))
def Z2.l4:Nat->Library->Entry->Int->Bool->Int->Option (Sum Bool Unit)
 |0,_,_,_,_,_=>none
 |k+1,x21,x22,x24,x25,x29=>bif (decide (x29<(x21.entries.length:Int)))then(bif x25 then(bif decide (0<=x29)then(bif decide (x29<(x21.entries.length:Int))then((Z114.F k ((x21.entries.getD (x29:Int).toNat (Q4 .entry)).title) x22.title).bind λr24=>bif (!r24.2)then(some (.inl false))else(bif (decide (r24.1<x24))then(some (.inl false))else(Z2.l4 k x21 x22 x24 x25 (IntKind.wrap .i64 (x29+1)))))else none)else none)else(some (.inr ())))else(some (.inr ()))
def Z2.F (k:Nat)(a0:List Int):Option (Bool):=(Z120.F a0).bind λr1=>bif r1 then(some true)else((Z109.F k a0).bind λr2=>(Z1.F k r2.1 r2.2).bind λr3=>(Z0.F k r2.1 r2.2).bind λr4=>bif (!(r3.2==r4.2))then(some false)else(bif ((r3.1.length:Int) != (r4.1.length:Int))then(some false)else((Z2.l0 k a0 r2.1 r2.2 r3.1 r3.2 0).bind λy9=>match y9 with|.inl z10=>some z10|.inr z10=>(Z111.F k z10).bind λr11=>(Z19.F k (⟨r11.1.entries⟩:Library) r11.2).bind λr12=>(Z6.F k (⟨r11.1.entries⟩:Library) r11.2).bind λr13=>bif (!Qr r12.1 r13.1)then(some false)else(bif (!(r12.2==r13.2))then(some false)else(bif r12.2 then((Z113.F k (⟨r11.1.entries⟩:Library) r12.1).bind λr14=>bif r14.2 then(some false)else((Z86.F k z10).bind λr15=>(Z26.F k r15.1 r15.2).bind λr16=>(Z34.F k r15.1 r15.2).bind λr17=>bif (!Qr r16.1 r17.1)then(some false)else(bif (r16.2.1 != r17.2.1)then(some false)else(bif (!(r16.2.2==r17.2.2))then(some false)else((Z2.l4 k r15.1 r15.2 r16.2.1 r16.2.2 0).bind λy19=>match y19 with|.inl z20=>some z20|.inr z20=>some true)))))else((Z86.F k z10).bind λr21=>(Z26.F k r21.1 r21.2).bind λr22=>(Z34.F k r21.1 r21.2).bind λr23=>bif (!Qr r22.1 r23.1)then(some false)else(bif (r22.2.1 != r23.2.1)then(some false)else(bif (!(r22.2.2==r23.2.2))then(some false)else((Z2.l4 k r21.1 r21.2 r22.2.1 r22.2.2 0).bind λy25=>match y25 with|.inl z26=>some z26|.inr z26=>some true)))))))))
def Z2.C (k:Nat):Cal->Option CArm:=λc=>match c with
 |.f 8=>some (.tt [.lib,(.int .i64)] _ (λx=>Z1.F k x.1 x.2.1) (λr=>(.tup [.tr (.sl (.sl .str)) r.1,.t .bool r.2])))
 |.f 14=>some (.p [(.sl (.int .u8))] _ (λx=>Z120.F x.1) (λr=>(.t .bool r)))
 |.f 15=>some (.p [(.sl (.int .u8))] _ (λx=>Z109.F k x.1) (λr=>(.tup [.t .lib r.1,.t (.int .i64) r.2])))
 |.f 6=>some (.p [.lib,(.int .i64)] _ (λx=>Z0.F k x.1 x.2.1) (λr=>(.tup [.fr 65 (.sl .str) r.1,.t .bool r.2])))
 |.f 16=>some (.p [.entry,.entry,(.int .i64)] _ (λx=>Z110.F k x.1 x.2.1 x.2.2.1) (λr=>(.tup [.t .bool r.1,.t .bool r.2])))
 |.f 17=>some (.p [(.sl (.sl .str)),.str,.str] _ (λx=>Z42.F k x.1 x.2.1 x.2.2.1) (λr=>(.t .bool r)))
 |.f 18=>some (.p [(.sl (.int .u8))] _ (λx=>Z111.F k x.1) (λr=>(.tup [sfV 48 .lib r.1,.t .entry r.2])))
 |.f 19=>some (.p [.lib,.entry] _ (λx=>Z19.F k x.1 x.2.1) (λr=>(.tup [.t .str r.1,.t .bool r.2])))
 |.f 20=>some (.p [.lib,.entry] _ (λx=>Z6.F k x.1 x.2.1) (λr=>(.tup [.t .str r.1,.t .bool r.2])))
 |.f 21=>some (.p [.lib,.str] _ (λx=>Z113.F k x.1 x.2.1) (λr=>(.tup [.t (.int .i64) r.1,.t .bool r.2])))
 |.f 22=>some (.p [(.sl (.int .u8))] _ (λx=>Z86.F k x.1) (λr=>(.tup [.t .lib r.1,.t .entry r.2])))
 |.f 23=>some (.p [.lib,.entry] _ (λx=>Z26.F k x.1 x.2.1) (λr=>(.tup [.t .str r.1,.t (.int .i64) r.2.1,.t .bool r.2.2])))
 |.f 24=>some (.p [.lib,.entry] _ (λx=>Z34.F k x.1 x.2.1) (λr=>(.tup [.t .str r.1,.t (.int .i64) r.2.1,.t .bool r.2.2])))
 |.f 25=>some (.p [.str,.str] _ (λx=>Z114.F k x.1 x.2.1) (λr=>(.tup [.t (.int .i64) r.1,.t .bool r.2])))
 |_=>none
def Z2.sp2:List Sp:=[.t 0 (.sl (.int .u8)),.boxT 3 3092 .lib,.t 4 (.int .i64),.tv 5 4104 0 (.sl (.sl .str)) false,.t 6 .bool,.t 9 (.int .i64),.t 10 (.int .i64)]
def Z2.sp2_0:List Sp:=[.t 2 .bool]
def Z2.sp2_1:List Sp:=[.t 0 (.sl (.int .u8)),.boxT 3 3092 .lib,.t 4 (.int .i64),.tv 5 4104 0 (.sl (.sl .str)) false,.t 6 .bool,.t 9 (.int .i64)]
def Z2.A2:LArm:=.two Z2.sp2 Z2.sp2_0 Z2.sp2_1 (Bool) ((List Int)×Library×Int× (List (List ByteArray))×Bool×Int) (λk x=>Z2.l2 k x.1 x.2.1 x.2.2.1 x.2.2.2.1 x.2.2.2.2.1 x.2.2.2.2.2.1 x.2.2.2.2.2.2.1) .ret (.exit 2) (λy=>(y,())) (λx=>x.1) (λy=>(y.1,y.2.1,y.2.2.1,y.2.2.2.1,y.2.2.2.2.1,y.2.2.2.2.2,())) (λx=>(x.1,x.2.1,x.2.2.1,x.2.2.2.1,x.2.2.2.2.1,x.2.2.2.2.2.1))
def Z2.sp0:List Sp:=[.t 0 (.sl (.int .u8)),.boxT 3 3092 .lib,.t 4 (.int .i64),.tv 5 4104 0 (.sl (.sl .str)) false,.t 6 .bool,.t 9 (.int .i64)]
def Z2.sp0_0:List Sp:=[.t 2 .bool]
def Z2.sp0_1:List Sp:=[.t 0 (.sl (.int .u8))]
def Z2.A0:LArm:=.two Z2.sp0 Z2.sp0_0 Z2.sp0_1 (Bool) ((List Int)) (λk x=>Z2.l0 k x.1 x.2.1 x.2.2.1 x.2.2.2.1 x.2.2.2.2.1 x.2.2.2.2.2.1) .ret (.exit 0) (λy=>(y,())) (λx=>x.1) (λy=>(y,())) (λx=>x.1)
def Z2.sp4:List Sp:=[.boxT 21 26644 .lib,.boxT 22 26648 .entry,.t 24 (.int .i64),.t 25 .bool,.t 29 (.int .i64)]
def Z2.sp4_0:List Sp:=[.t 2 .bool]
def Z2.sp4_1:List Sp:=[]
def Z2.A4:LArm:=.two Z2.sp4 Z2.sp4_0 Z2.sp4_1 (Bool) (Unit) (λk x=>Z2.l4 k x.1 x.2.1 x.2.2.1 x.2.2.2.1 x.2.2.2.2.1) .ret (.exit 4) (λy=>(y,())) (λx=>x.1) (λy=>()) (λx=>())
def Z2.L:Nat->Option LArm:=λb=>match b with
 |2=>some Z2.A2
 |0=>some Z2.A0
 |4=>some Z2.A4
 |_=>none
theorem Z2.run (k:Nat)(a0:List Int):Qm Q0 (Q8 (Z2.C k)) (Q6 207 k Z2.L) Tryz.f4 [.t (.sl (.int .u8)) a0] (Q5 (.t .bool))=Z2.F k a0:=by kernel_rfl
theorem Z2.step2 (k:Nat)(x0:List Int)(x3:Library)(x4:Int)(x5:List (List ByteArray))(x6:Bool)(x9:Int)(x10:Int):Qs Q0 (Q8 (Z2.C k)) (Q6 207 k Z2.L) 2 (Qh Tryz.f4 2) (QA 207 Z2.sp2 (x0,x3,x4,x5,x6,x9,x10,())) (Z2.A2.cont 207 k)=Z2.l2 (k+1) x0 x3 x4 x5 x6 x9 x10:=by kernel_rfl
theorem Z2.step0 (k:Nat)(x0:List Int)(x3:Library)(x4:Int)(x5:List (List ByteArray))(x6:Bool)(x9:Int):Qs Q0 (Q8 (Z2.C k)) (Q6 207 k Z2.L) 0 (Qh Tryz.f4 0) (QA 207 Z2.sp0 (x0,x3,x4,x5,x6,x9,())) (Z2.A0.cont 207 k)=Z2.l0 (k+1) x0 x3 x4 x5 x6 x9:=by kernel_rfl
theorem Z2.step4 (k:Nat)(x21:Library)(x22:Entry)(x24:Int)(x25:Bool)(x29:Int):Qs Q0 (Q8 (Z2.C k)) (Q6 207 k Z2.L) 4 (Qh Tryz.f4 4) (QA 207 Z2.sp4 (x21,x22,x24,x25,x29,())) (Z2.A4.cont 207 k)=Z2.l4 (k+1) x21 x22 x24 x25 x29:=by kernel_rfl
theorem Z2.G (hE:EnvOk Tryz.prog Q0)(pv:Nat->Value)(k:Nat):∀cal A,Z2.C k cal=some A->Qc Tryz.prog Q0 pv cal A:=by
 intro cal A h
 unfold Z2.C at h
 split at h
 ·cases h;exact⟨_,rfl,λx y hy=>Z1.good QbY pv k x.1 x.2.1 hy⟩
 ·cases h;exact λx y hy=>Z120.good hE pv x.1 hy
 ·cases h;exact λx y hy=>Z109.good hE pv k x.1 hy
 ·cases h;exact λx y hy=>Z0.good hE pv k x.1 x.2.1 hy
 ·cases h;exact λx y hy=>Z110.good hE pv k x.1 x.2.1 x.2.2.1 hy
 ·cases h;exact λx y hy=>Z42.good hE pv k x.1 x.2.1 x.2.2.1 hy
 ·cases h;exact λx y hy=>Z111.good hE pv k x.1 hy
 ·cases h;exact λx y hy=>Z19.good hE pv k x.1 x.2.1 hy
 ·cases h;exact λx y hy=>Z6.good hE pv k x.1 x.2.1 hy
 ·cases h;exact λx y hy=>Z113.good hE pv k x.1 x.2.1 hy
 ·cases h;exact λx y hy=>Z86.good hE pv k x.1 hy
 ·cases h;exact λx y hy=>Z26.good hE pv k x.1 x.2.1 hy
 ·cases h;exact λx y hy=>Z34.good hE pv k x.1 x.2.1 hy
 ·cases h;exact λx y hy=>Z114.good hE pv k x.1 x.2.1 hy
 ·cases h
theorem Z2.good (hE:EnvOk Tryz.prog Q0)(pv:Nat->Value)(k:Nat)(a0:List Int){y:_}(h:Z2.F k a0=some y):Qd Tryz.prog Q0 pv (.f 4) (Q7 [(.sl (.int .u8))] (a0,())) (.t .bool y):=
 Qj hE (t:=Z2.C) k (λk _=>Z2.G hE pv k) (f:=4) (fn:=Tryz.f4) (by kernel_rfl) rfl (by kernel_rfl) (by kernel_rfl) (lt:=Z2.L) (by kernel_rfl) (λb A h=>by
  unfold Z2.L at h;split at h
  ·cases h;exact⟨by kernel_rfl,by kernel_rfl,by kernel_rfl,λ_=>rfl,λ_=>rfl,λ_=>rfl⟩
  ·cases h;exact⟨by kernel_rfl,by kernel_rfl,by kernel_rfl,λ_=>rfl,λ_=>rfl,λ_=>rfl⟩
  ·cases h;exact⟨by kernel_rfl,by kernel_rfl,by kernel_rfl,λ_=>rfl,λ_=>rfl,λ_=>rfl⟩
  ·cases h) (λb A h=>by
  unfold Z2.L at h;split at h
  ·cases h;exact λk x=>Z2.step2 k x.1 x.2.1 x.2.2.1 x.2.2.2.1 x.2.2.2.2.1 x.2.2.2.2.2.1 x.2.2.2.2.2.2.1
  ·cases h;exact λk x=>Z2.step0 k x.1 x.2.1 x.2.2.1 x.2.2.2.1 x.2.2.2.2.1 x.2.2.2.2.2.1
  ·cases h;exact λk x=>Z2.step4 k x.1 x.2.1 x.2.2.1 x.2.2.2.1 x.2.2.2.2.1
  ·cases h) ((Z2.run k a0).trans h) (λr hr=>Q1 hr)
end Go.Proofs.YtoojiikgbopeiaaGreatDoor
end
section
/- Plain laws: bytes,pieces,edges of a text;no function of the program. -/
namespace Go.Proofs.YtoojiikgbopeiaaGreatDoor
open Go.Gx
theorem getD_at {α:Type}{xs:List α}{i:Nat}(h:i<xs.length)(d:α):xs.getD i d=xs[i]:=by simp[List.getD,List.getElem?_eq_getElem h]
theorem Q1k {s:ByteArray}:(!Qr s ⟨#[]⟩)=decide (0<s.size):=by
 rw[Q6N]
 have:L ⟨#[]⟩=[]:=rfl
 rw[this,<-Jh]
 cases L s<;>rfl
theorem Jo (s t:ByteArray):(s++t).size=s.size+t.size:=by
 rw[<-Jh,QR,List.length_append,Jh,Jh]
theorem Qq (s:ByteArray):(Q2 s).length=s.size:=by
 simp only[Q2,List.length_map,Array.length_toList];rfl
theorem YH (s:ByteArray):Q2 s=(L s).map λb=>(b.toNat:Int):=rfl
theorem YU (s:ByteArray)(i:Nat)(h:i<(Q2 s).length):bt s i=(Q2 s)[i]:=by
 rw[Q9D]
 have h':i<(L s).length:=by simpa[YH]using h
 simp[YH,List.getD,h']
theorem XW (s:ByteArray)(i:Nat)(h:i<(Q2 s).length):0<=(Q2 s)[i]/\(Q2 s)[i]<=255:=by
 rw[<-YU s i h];exact Q9E s i
theorem Q2E {s:ByteArray}{i:Nat}(h:i<(Q2 s).length)(p:Int->Bool):((Q2 s).drop i).all p=(p (Q2 s)[i]&&((Q2 s).drop (i+1)).all p):=by
 rw[List.drop_eq_getElem_cons h];rfl
theorem Q9J (s:ByteArray)(st a:Nat):(s.extract st s.size).extract a (s.extract st s.size).size=s.extract (st+a) s.size:=by
 apply YS
 have e:(L s).take s.size=L s:=List.take_of_length_le (Nat.le_refl _)
 rw[QW,QW s (st+a),<-Jh (s.extract st s.size),QW,List.take_length,List.drop_drop,e]
theorem Q9K (s:ByteArray)(st i:Nat)(h:st<=i)(hi:i<=s.size):(s.extract st s.size).extract 0 (i-st)=s.extract st i:=by
 apply YS
 rw[QW,QW,QW,List.drop_zero,List.take_of_length_le (show(L s).length<=s.size from Nat.le_refl _),List.drop_take]
def sp:ByteArray:=⟨#[32]⟩
theorem QbZ {l:List UInt8}{c:UInt8}{i:Nat}(h:l[i]? =some c)(hn:∀j,j<i->l[j]? ≠some c):Lib.indexByte l c=i:=by
 have hg:=Lib.indexByte_ge l c
 by_cases e:Lib.indexByte l c= -1
 ·exact absurd h (Lib.indexByte_none e i)
 ·obtain⟨o,ho⟩:∃o:Nat,Lib.indexByte l c=o:=⟨(Lib.indexByte l c).toNat,by omega⟩
  obtain⟨h1,h2⟩:=Lib.indexByte_some ho
  rcases Nat.lt_trichotomy o i with h3|h3|h3
  ·exact absurd h1 (hn o h3)
  ·rw[ho,h3]
  ·exact absurd h (h2 i h3)
theorem QaY {l:List UInt8}{c:UInt8}(hn:∀j:Nat,l[j]? ≠some c):Lib.indexByte l c= -1:=by
 have hg:=Lib.indexByte_ge l c
 by_cases e:Lib.indexByte l c= -1
 ·exact e
 ·obtain⟨o,ho⟩:∃o:Nat,Lib.indexByte l c=o:=⟨(Lib.indexByte l c).toNat,by omega⟩
  exact absurd (Lib.indexByte_some ho).1 (hn o)
theorem Q2F (s:ByteArray):Lib.indexB s sp=Lib.indexByte (L s) 32:=Lib.one s sp rfl
theorem Q5Y (s:ByteArray)(st j:Nat):(L (s.extract st s.size))[j]? =(L s)[st+j]?:=by
 rw[QW,List.take_of_length_le (show(L s).length<=s.size from Nat.le_refl _),List.getElem?_drop]
def Y4 (s:ByteArray)(st:Nat):List ByteArray:=Lib.splitB sp 0 (Lib.countB (s.extract st s.size) sp) (s.extract st s.size)
theorem Q2G (s:ByteArray)(st:Nat)(h:∀j,st<=j->(L s)[j]? ≠some 32):Y4 s st=[s.extract st s.size]:=by
 unfold Y4
 rw[Lib.countB_miss _ _ ((Q2F _).trans (QaY λj=>by rw[Q5Y];exact h _ (by omega)))]
 rfl
theorem Q2H (s:ByteArray)(st i:Nat)(h1:st<=i)(hi:i<s.size)(hb:(L s)[i]? =some 32)(h:∀j,st<=j->j<i->(L s)[j]? ≠some 32):Y4 s st=s.extract st i::Y4 s (i+1):=by
 have e:Lib.indexB (s.extract st s.size) sp=((i-st:Nat):Int):=(Q2F _).trans (QbZ (by rw[Q5Y,show st+(i-st)=i by omega];exact hb) λj hj=>by rw[Q5Y];exact h _ (by omega) (by omega))
 have e1:sp.size=1:=rfl
 unfold Y4
 rw[Lib.countB_hit _ _ _ (by rw[e1];exact Nat.le_refl _) e,Nat.add_comm 1,Lib.splitB_hit _ _ _ _ _ e,Nat.add_zero,Q9K s st i h1 (by omega),e1,Q9J,show st+(i-st+1)=i+1 by omega]
theorem sub_self (s:ByteArray):s.extract 0 s.size=s:=by
 apply YS
 rw[QW,List.take_of_length_le (show(L s).length<=s.size from Nat.le_refl _),List.drop_zero]
def words (s:ByteArray):List ByteArray:=Lib.splitB sp 0 (Lib.countB s sp) s
theorem Q1l (s:ByteArray):Y4 s 0=words s:=by unfold Y4 words;rw[sub_self]
theorem UA:∀(k:Nat) (s:ByteArray),∀x∈Lib.splitB sp 0 k s,x.size<=s.size
 |0,s,x,hx=>by
  rw[Lib.splitB_zero]at hx
  simp only[List.mem_singleton]at hx
  rw[hx];exact Nat.le_refl _
 |k+1,s,x,hx=>by
  unfold Lib.splitB at hx
  split at hx
  ·simp only[List.mem_singleton]at hx
   rw[hx];exact Nat.le_refl _
  ·rcases List.mem_cons.1 hx with rfl|hx
   ·rw[ByteArray.size_extract];omega
   ·have:=UA k _ x hx
    rw[ByteArray.size_extract]at this
    omega
theorem KE (s:ByteArray):1<=(words s).length/\(words s).length<=s.size+1:=by
 unfold words
 have h1:1<=sp.size:=Nat.le_refl 1
 rw[Lib.splitB_all sp h1 0 _ s rfl]
 have:=Lib.countB_le sp h1 s.size s (Nat.le_refl _)
 omega
theorem Q1m {α:Type}(p:α->Bool):∀l:List α,l.dropWhile p=l ↔ (∀a,l.head?=some a->p a=false)
 |[]=>by simp
 |a::l=>by
  have hl:(l.dropWhile p).length<=l.length:=(List.dropWhile_sublist p).length_le
  cases h:p a with
  |true=>
   rw[List.dropWhile_cons_of_pos h]
   constructor
   ·intro e
    have:=congrArg List.length e
    simp at this
    omega
   ·intro e
    have:=e a rfl
    rw[h]at this;cases this
  |false=>
   rw[List.dropWhile_cons_of_neg (by rw[h];exact Bool.noConfusion)]
   simp[h]
theorem Q5Z (l:List UInt8)(c:UInt8):Lib.trimB l c=l ↔ l.head?≠some c/\l.getLast?≠some c:=by
 unfold Lib.trimB Lib.trimLeftB Lib.trimRightB
 have h1:∀m:List UInt8,m.dropWhile (· ==c)=m ↔ m.head?≠some c:=λm=>by
  rw[Q1m]
  constructor
  ·intro h e;have:=h c e;simp at this
  ·intro h a e
   have:a≠c:=λe'=>h (e'▸e)
   simpa using this
 constructor
 ·intro h
  have h2:((l.reverse.dropWhile (· ==c)).reverse).length<=l.length:=by
   have:=(List.dropWhile_sublist (p:=(· ==c)) (l:=l.reverse)).length_le
   simpa using this
  have h3:=(List.dropWhile_sublist (p:=(· ==c)) (l:=(l.reverse.dropWhile (· ==c)).reverse))
  have h4:(l.reverse.dropWhile (· ==c)).reverse=l:=by
   have h5:(l.reverse.dropWhile (· ==c)).reverse.length=l.length:=by
    have:=h3.length_le
    rw[h]at this
    omega
   have h6:l.reverse.dropWhile (· ==c)=l.reverse:=(List.dropWhile_sublist (p:=(· ==c)) (l:=l.reverse)).eq_of_length (by simpa using h5)
   rw[h6,List.reverse_reverse]
  rw[h4]at h
  refine⟨(h1 l).1 h,?_⟩
  have h6:l.reverse.dropWhile (· ==c)=l.reverse:=by rw[<-List.reverse_inj,h4,List.reverse_reverse]
  have:=(h1 _).1 h6
  simpa using this
 ·rintro⟨ha,hb⟩
  have h6:l.reverse.dropWhile (· ==c)=l.reverse:=(h1 _).2 (by simpa using hb)
  rw[h6,List.reverse_reverse]
  exact(h1 l).2 ha
def vis (lo b:Int):Bool:=decide (lo<=b)&&decide (b<=126)
theorem Q6Q {s:ByteArray}{i:Nat}(hi:i<s.size):bt s i=32 ↔ (L s)[i]? =some 32:=by
 have hi':i<(L s).length:=hi
 have hbt:bt s i=((L s)[i].toNat:Int):=by rw[Q9D,getD_at hi']
 rw[List.getElem?_eq_getElem hi',hbt]
 have:(32:UInt8).toNat=32:=rfl
 constructor
 ·intro h
  congr 1
  apply UInt8.toNat_inj.1
  omega
 ·intro h
  rw[Option.some.inj h];rfl
def QaZ (s:ByteArray):Bool:=(decide (s.size=0))||(bt s 0 != 32&&bt s (s.size-1) != 32)
theorem Qb0 (s:ByteArray):Qr ⟨(Lib.trimB (L s) 32).toArray⟩ s=QaZ s:=by
 rw[Bool.eq_iff_iff,YT]
 have h1:(⟨(Lib.trimB (L s) 32).toArray⟩:ByteArray)=s ↔ Lib.trimB (L s) 32=L s:=by
  constructor
  ·intro h
   have:=congrArg L h
   rwa [Q5W]at this
  ·intro h
   apply YS
   rw[Q5W,h]
 rw[h1,Q5Z]
 unfold QaZ
 by_cases hz:s.size=0
 ·have:L s=[]:=List.eq_nil_of_length_eq_zero hz
  rw[this]
  simp[hz]
 ·have h2:(L s).head?=(L s)[0]?:=List.head?_eq_getElem?
  have h3:(L s).getLast?=(L s)[s.size-1]?:=by rw[List.getLast?_eq_getElem?];rfl
  rw[h2,h3,Bool.or_eq_true,decide_eq_true_eq,Bool.and_eq_true,bne_iff_ne,bne_iff_ne,Ne,Ne,Ne,Ne,Q6Q (by omega),Q6Q (by omega)]
  simp[hz]
def pos (s:ByteArray):Bool:=decide (0<s.size)
theorem ext_size {s:ByteArray}{a b:Nat}(h:a<=b)(hb:b<=s.size):(s.extract a b).size=b-a:=by
 rw[ByteArray.size_extract];omega
theorem Q9L {n:Nat}(h:n<=8192):room n .str=true:=by
 unfold room
 rw[Nat.ble_eq]
 have:nb .str=16:=rfl
 rw[this]
 omega
theorem Q4B (s:ByteArray)(a b:Nat)(hab:a<=b)(hb:b<=s.size)(l:List ByteArray):(s.extract a b::l).filter pos=(if a<b then[s.extract a b]else[])++l.filter pos:=by
 rw[List.filter_cons]
 unfold pos
 rw[ext_size hab hb]
 by_cases c:a<b
 ·rw[if_pos c,decide_eq_true (by omega)];rfl
 ·rw[if_neg c,decide_eq_false (by omega)];rfl
theorem Q7Z (x:List UInt8)(r:List (List UInt8)):Lib.joinTail [32] (x::r)=32::(x++Lib.joinTail [32] r):=by simp[Lib.joinTail]
theorem e32:(⟨#[32]⟩:ByteArray).size=1:=rfl
theorem L32:L ⟨#[32]⟩=[32]:=rfl
def ms {α:Type}(f:α->α)(W:List α)(i:Nat):List α:=(W.take i).map f++W.drop i
section
variable {α:Type} (f:α->α) (W:List α)
end
end Go.Proofs.YtoojiikgbopeiaaGreatDoor
end
section
/- Plain laws: texts of an entry. -/
namespace Go.Proofs.YtoojiikgbopeiaaGreatDoor
open Go.Gx
theorem Q80 (s:ByteArray)(hs:s.size<=1048576):Z125.F s ⟨#[32]⟩=some ⟨(Lib.trimB (L s) 32).toArray⟩:=by
 unfold Z125.F Q3o
 rw[Nat.ble_eq_true_of_le (by omega)]
 rfl
theorem GW (s:ByteArray)(hs:s.size<=1048576):∀n i:Nat,i+n=s.size->Ev (λk=>Z28.l0 k s i) (if((Q2 s).drop i).all (vis 32)=true then .inr s else .inl false)
 |0,i,h=>by
  refine Ev.step (λk=>by rw[Z28.l0]) ?_
  simp(disch:=omega) only[Qk]
  rw[List.drop_eq_nil_of_le (by rw[Qq];omega)]
  exact Ev.pure _
 |n+1,i,h=>by
  have hl:=Qq s
  have hi:i<(Q2 s).length:=by omega
  refine Ev.step (λk=>by rw[Z28.l0]) ?_
  simp(disch:=omega) only[Qa,Int.toNat_natCast,YU s i hi]
  rw[Q2E hi]
  unfold vis
  by_cases c1:(Q2 s)[i]<32
  ·simp(disch:=omega) only[Qa,Q0c,Bool.false_and];exact Ev.pure _
  ·by_cases c2:(Q2 s)[i] > 126
   ·simp(disch:=omega) only[Qa,Qk,Q0c,Bool.and_false,Bool.false_and];exact Ev.pure _
   ·simp(disch:=omega) only[Qa,Qk,Q1h,Bool.and_self,Bool.true_and,wrap_in]
    exact GW s hs n (i+1) (by omega)
theorem Q1n (s:ByteArray)(hs:s.size<=1048576):∀n i:Nat,i+n=s.size->Ev (λk=>Z45.l0 k s i) (if((Q2 s).drop i).all (vis 32)=true then .inr s else .inl false)
 |0,i,h=>by
  refine Ev.step (λk=>by rw[Z45.l0]) ?_
  simp(disch:=omega) only[Qk]
  rw[List.drop_eq_nil_of_le (by rw[Qq];omega)]
  exact Ev.pure _
 |n+1,i,h=>by
  have hl:=Qq s
  have hi:i<(Q2 s).length:=by omega
  refine Ev.step (λk=>by rw[Z45.l0]) ?_
  simp(disch:=omega) only[Qa,Int.toNat_natCast,YU s i hi]
  rw[Q2E hi]
  unfold vis
  by_cases c1:(Q2 s)[i]<32
  ·simp(disch:=omega) only[Qa,Q0c,Bool.false_and];exact Ev.pure _
  ·by_cases c2:(Q2 s)[i] > 126
   ·simp(disch:=omega) only[Qa,Qk,Q0c,Bool.and_false,Bool.false_and];exact Ev.pure _
   ·simp(disch:=omega) only[Qa,Qk,Q1h,Bool.and_self,Bool.true_and,wrap_in]
    exact Q1n s hs n (i+1) (by omega)
def Y5 (s:ByteArray):Bool:=decide (s.size<=40)&&((Q2 s).all (vis 32)&&QaZ s)
theorem UB (s:ByteArray):Ev (λk=>Z28.F k s) (Y5 s):=by
 unfold Z28.F Y5
 by_cases c:(s.size:Int) > 40
 ·simp(disch:=omega) only[Qa,Q0c,Bool.false_and]
  exact Ev.pure _
 ·simp(disch:=omega) only[Qk,Q1h,Bool.true_and]
  have:=GW s (by omega) s.size 0 (by omega)
  rw[List.drop_zero]at this
  cases h:(Q2 s).all (vis 32)with
  |false=>rw[h]at this;exact Ev.bind this (Ev.pure _)
  |true=>
   rw[h]at this
   refine Ev.bind (a:=.inr s) this ?_
   dsimp only
   have he:Qr s ⟨#[]⟩=decide (s.size=0):=by
    rw[<-Bool.not_not (b:=Qr s ⟨#[]⟩),Q1k]
    by_cases hz:s.size=0
    ·simp[hz]
    ·rw[decide_eq_true (by omega:0<s.size),decide_eq_false hz];rfl
   rw[he]
   unfold QaZ
   by_cases hz:s.size=0
   ·rw[decide_eq_true hz];exact Ev.pure _
   ·rw[decide_eq_false hz]
    simp(disch:=omega) only[cond_false,cond_true,Qa,wrap_in]
    rw[show((s.size:Int)-1).toNat=s.size-1 by omega,show(0:Int).toNat=0 from rfl,Bool.false_or,Bool.true_and]
    cases (bt s 0 != 32)with
    |true=>exact Ev.pure _
    |false=>exact Ev.pure _
theorem Ua (s:ByteArray):Ev (λk=>Z68.F k s) (Y5 s):=by
 unfold Z68.F Y5
 by_cases c:(s.size:Int)<=40
 ·simp(disch:=omega) only[Qa,Q1h,Bool.true_and]
  refine Ev.bind ?_ (Ev.pure _)
  unfold Z45.F
  have:=Q1n s (by omega) s.size 0 (by omega)
  rw[List.drop_zero]at this
  cases h:(Q2 s).all (vis 32)with
  |false=>rw[h]at this;exact Ev.bind this (Ev.pure _)
  |true=>
   rw[h]at this
   refine Ev.bind (a:=.inr s) this ?_
   dsimp only
   refine Ev.bind0 (Q80 s (by omega)) ?_
   simp only[Qb0,Bool.true_and]
   exact Ev.pure _
 ·simp(disch:=omega) only[Qk,Q0c,Bool.false_and]
  exact Ev.pure _
end Go.Proofs.YtoojiikgbopeiaaGreatDoor
end
section
/- Plain laws: a text split at its spaces. -/
namespace Go.Proofs.YtoojiikgbopeiaaGreatDoor
open Go.Gx
theorem Q4C (s:ByteArray)(hs:s.size<=1048576):Z124.F s ⟨#[32]⟩=some (words s):=by
 unfold Z124.F Q3n
 rw[Nat.ble_eq_true_of_le (by omega)]
 rfl
end Go.Proofs.YtoojiikgbopeiaaGreatDoor
end
section
/- Plain laws: a text split at its spaces,the other way. -/
namespace Go.Proofs.YtoojiikgbopeiaaGreatDoor
open Go.Gx
theorem Q1o (s:ByteArray)(hs:s.size<=1048576):∀n i:Nat,i+n=s.size->∀st:Nat,st<=i->(∀j,st<=j->j<i->(L s)[j]? ≠some 32)->∀acc:List ByteArray,acc.length<=i->
  ∃acc' st',Ev (λk=>Z38.l0 k s 32 acc st i) (s,acc',((st':Nat):Int))/\st'<=s.size/\acc'.length<=s.size/\acc'++[s.extract st' s.size]=acc++Y4 s st
 |0,i,h,st,h1,hn,acc,ha=>by
  refine⟨acc,st,Ev.step (λk=>by rw[Z38.l0]) ?_,by omega,by omega,?_⟩
  ·simp(disch:=omega) only[Qk]
   exact Ev.pure _
  ·rw[Q2G s st λj hj=>?_]
   by_cases hj2:j<i
   ·exact hn j hj hj2
   ·rw[List.getElem?_eq_none (by rw[Jh];omega)];exact λh=>by cases h
 |n+1,i,h,st,h1,hn,acc,ha=>by
  have hi:i<(L s).length:=by rw[Jh];omega
  have hbt:bt s i=((L s)[i].toNat:Int):=by rw[Q9D,getD_at hi]
  by_cases c:bt s i=32
  ·have hb:(L s)[i]? =some 32:=by
    rw[List.getElem?_eq_getElem hi]
    congr 1
    apply UInt8.toNat_inj.1
    have:(32:UInt8).toNat=32:=rfl
    omega
   obtain⟨acc',st',r1,r2,r3,r4⟩:=Q1o s hs n (i+1) (by omega) (i+1) (Nat.le_refl _) (λj h1 h2=>by omega) (acc++[s.extract st i]) (by simp;omega)
   refine⟨acc',st',Ev.step (λk=>by rw[Z38.l0]) ?_,r2,r3,?_⟩
   ·have hr:room (acc.length+([s.extract st i]:List ByteArray).length) .str=true:=by
     unfold room
     rw[Nat.ble_eq]
     have:nb .str=16:=rfl
     rw[this]
     simp;omega
    simp(disch:=omega) only[Qa,Int.toNat_natCast,ceq,hr,cond_true,wrap_in]
    exact r1
   ·rw[r4,Q2H s st i h1 (by omega) hb hn];simp
  ·obtain⟨acc',st',r1,r2,r3,r4⟩:=Q1o s hs n (i+1) (by omega) st (by omega) (λj h1 h2=>by
    rcases Nat.lt_or_ge j i with h3|h3
    ·exact hn j h1 h3
    ·obtain rfl:j=i:=by omega
     rw[List.getElem?_eq_getElem hi]
     intro e
     apply c
     rw[hbt,Option.some.inj e];rfl) acc (by omega)
   refine⟨acc',st',Ev.step (λk=>by rw[Z38.l0]) ?_,r2,r3,r4⟩
   simp(disch:=omega) only[Qa,Int.toNat_natCast,cne,wrap_in]
   exact r1
theorem Q3q (s:ByteArray)(hs:s.size<=1048576):Ev (λk=>Z38.F k s 32) (words s):=by
 unfold Z38.F
 obtain⟨acc',st',r1,r2,r3,r4⟩:=Q1o s hs s.size 0 (by omega) 0 (Nat.le_refl _) (λj h1 h2=>by omega) [] (Nat.le_refl _)
 refine Ev.bind r1 ?_
 have hr:room (acc'.length+([s.extract st' s.size]:List ByteArray).length) .str=true:=by
  unfold room
  rw[Nat.ble_eq]
  have:nb .str=16:=rfl
  rw[this]
  simp;omega
 simp(disch:=omega) only[Qa,Int.toNat_natCast,hr,cond_true,r4,Q1l,List.nil_append]
 exact Ev.pure _
end Go.Proofs.YtoojiikgbopeiaaGreatDoor
end
section
/- Plain laws: lists of texts: size,copy,equality. -/
namespace Go.Proofs.YtoojiikgbopeiaaGreatDoor
open Go.Gx
def Q9M (xs:List ByteArray):Nat:=(xs.map ByteArray.size).sum
end Go.Proofs.YtoojiikgbopeiaaGreatDoor
end
section
/- Plain laws: names,entries,libraries: size,copy,equality. -/
namespace Go.Proofs.YtoojiikgbopeiaaGreatDoor
open Go.Gx
def Q1V (n:Name):Nat:=n.given.length+Q9M n.given+n.particle.size+n.family.size+n.suffix.size
def XD (xs:List Name):Nat:=xs.length+(xs.map Q1V).sum
def Q3r (e:Entry):Nat:=e.key.size+XD e.authors+XD e.editors+e.title.size+e.container.size+e.publisher.size+e.pages.size+e.cross.size
def Q6R (xs:List Entry):Nat:=xs.length+(xs.map Q3r).sum
theorem Q6S {α:Type}(f:α->Nat){xs:List α}{x:α}(h:x∈xs):f x<=(xs.map f).sum:=by
 induction xs with
 |nil=>cases h
 |cons b l ih=>
  simp only[List.map_cons,List.sum_cons]
  rcases List.mem_cons.1 h with rfl|h
  ·omega
  ·have:=ih h;omega
def Xx (n:Name):Prop:=Q1V n<=1048576
def Y7 (e:Entry):Prop:=Q3r e<=1048576
def JZ (l:Library):Prop:=Q6R l.entries<=1048576
theorem Ub {l:Library}(h:JZ l){e:Entry}(he:e∈l.entries):Y7 e:=by
 have:=Q6S Q3r he
 unfold JZ Q6R at h
 unfold Y7
 omega
theorem Q1p {xs:List Name}(h:XD xs<=1048576){n:Name}(hn:n∈xs):Xx n:=by
 have:=Q6S Q1V hn
 unfold XD at h
 unfold Xx
 omega
theorem Q4D {e:Entry}(h:Y7 e):XD e.authors<=1048576:=by unfold Y7 Q3r at h;omega
theorem Q4E {e:Entry}(h:Y7 e):XD e.editors<=1048576:=by unfold Y7 Q3r at h;omega
theorem GX {xs:List Name}(h:XD xs<=1048576):xs.length<=1048576:=by unfold XD at h;omega
theorem Da {l:Library}(h:JZ l):l.entries.length<=1048576:=by unfold JZ Q6R at h;omega
end Go.Proofs.YtoojiikgbopeiaaGreatDoor
end
section
/- Plain laws: slices.IndexFunc,slices.DeleteFunc,as they are printed for a function value. -/
namespace Go.Gx
section
variable {α:Type} {d:α} {p:α->Bool} {q:Nat->α->Option Bool} {xs:List α}
theorem Gq {α:Type}{xs:List α}{i:Nat}(h:i<xs.length)(d:α):xs.getD i d=xs[i]:=by simp[List.getD,List.getElem?_eq_getElem h]
theorem Q9N {l0:Nat->List α->Int->Int->Option (Sum Int Unit)}(H:∀k x0 x7 x8,l0 (k+1) x0 x7 x8=bif (decide (x8<x7))then(bif decide (0<=x8)then(bif decide (x8<(x0.length:Int))then((q k (x0.getD (x8:Int).toNat d)).bind λr1=>bif r1 then(some (.inl x8))else(l0 k x0 x7 (IntKind.wrap .i64 (x8+1))))else none)else none)else(some (.inr ())))
  (hq:∀x,x∈xs->Ev (λk=>q k x) (p x)) (hl:xs.length<=4611686018427387904):∀n i:Nat,i+n=xs.length->(∀x∈xs.take i,p x=false)->
  ∃r,Ev (λk=>l0 k xs xs.length i) r/\((r= .inr ()/\∀x∈xs,p x=false)\/∃j:Nat,r= .inl j/\j<xs.length/\p (xs.getD j d)=true/\∀x∈xs.take j,p x=false)
 |0,i,h,ht=>by
  refine⟨.inr (),Ev.step (λk=>by rw[H]) ?_,.inl ⟨rfl,by rw[List.take_of_length_le (by omega)]at ht;exact ht⟩⟩
  simp(disch:=omega) only[Qk]
  exact Ev.pure _
 |n+1,i,h,ht=>by
  have hi:i<xs.length:=by omega
  cases hp:p xs[i]with
  |true=>
   refine⟨.inl i,Ev.step (λk=>by rw[H]) ?_,.inr ⟨i,rfl,hi,by rw[Gq hi,hp],ht⟩⟩
   simp(disch:=omega) only[Qa,Int.toNat_natCast,Gq hi]
   refine Ev.bind (hq _ (List.getElem_mem hi)) ?_
   rw[hp]
   exact Ev.pure _
  |false=>
   obtain⟨r,h1,h2⟩:=Q9N H hq hl n (i+1) (by omega) (by
    intro x hx
    rw[List.take_add_one,List.getElem?_eq_getElem hi]at hx
    rcases List.mem_append.1 hx with hx|hx
    ·exact ht x hx
    ·simp only[Option.toList_some,List.mem_singleton]at hx
     rw[hx,hp])
   refine⟨r,Ev.step (λk=>by rw[H]) ?_,h2⟩
   simp(disch:=omega) only[Qa,Int.toNat_natCast,Gq hi]
   refine Ev.bind (hq _ (List.getElem_mem hi)) ?_
   rw[hp]
   simp(disch:=omega) only[cond_false,wrap_in]
   exact h1
theorem Q60 {l0:Nat->List α->Int->Int->Option (Sum Int Unit)}(H:∀k x0 x7 x8,l0 (k+1) x0 x7 x8=bif (decide (x8<x7))then(bif decide (0<=x8)then(bif decide (x8<(x0.length:Int))then((q k (x0.getD (x8:Int).toNat d)).bind λr1=>bif r1 then(some (.inl x8))else(l0 k x0 x7 (IntKind.wrap .i64 (x8+1))))else none)else none)else(some (.inr ())))
  (hq:∀x,x∈xs->Ev (λk=>q k x) (p x)) (hl:xs.length<=4611686018427387904) {F:Nat->List α->Option Int} (HF:∀k a0,F k a0=(l0 k a0 (a0.length:Int) 0).bind λy2=>match y2 with|.inl z3=>some z3|.inr z3=>some (-1)) :
  ∃r,Ev (λk=>F k xs) r/\((r= -1/\∀x∈xs,p x=false)\/∃j:Nat,r=j/\j<xs.length/\p (xs.getD j d)=true/\∀x∈xs.take j,p x=false):=by
 obtain⟨r,h1,h2⟩:=Q9N H hq hl xs.length 0 (by omega) (λx hx=>by simp at hx)
 rcases h2 with⟨rfl,h2⟩|⟨j,rfl,h2⟩
 ·exact⟨-1,Ev.congr (Ev.bind h1 (Ev.pure _)) (λk=>HF k xs),.inl ⟨rfl,h2⟩⟩
 ·exact⟨j,Ev.congr (Ev.bind h1 (Ev.pure _)) (λk=>HF k xs),.inr ⟨j,rfl,h2⟩⟩
theorem Q61 {l0:Nat->List α->Int->Int->Option (List α×Int)}(H:∀k x0 x5 x6,l0 (k+1) x0 x5 x6=bif (decide (x6<(x0.length:Int)))then(bif decide (0<=x6)then(bif decide (x6<(x0.length:Int))then((q k (x0.getD ((x6:Int).toNat) d)).bind λr2=>bif (!r2)then(bif decide (0<=x5)then(bif decide (x5<(x0.length:Int))then(l0 k (x0.set ((x5:Int).toNat) (x0.getD ((x6:Int).toNat) d)) (IntKind.wrap .i64 (x5+1)) (IntKind.wrap .i64 (x6+1)))else none)else none)else(l0 k x0 x5 (IntKind.wrap .i64 (x6+1))))else none)else none)else(some (x0,x5)))
  (hq:∀x,x∈xs->Ev (λk=>q k x) (p x)) (hl:xs.length<=4611686018427387904):∀n j:Nat,j+n=xs.length->∀(ys:List α) (i:Nat),ys.length=xs.length->i<=j->ys.drop j=xs.drop j->
  ∃zs,∃i':Nat,Ev (λk=>l0 k ys i j) (zs,(i':Int))/\i'<=xs.length/\zs.length=xs.length/\zs.take i'=ys.take i++(xs.drop j).filter λx=> !p x
 |0,j,h,ys,i,hy,hij,hd=>by
  refine⟨ys,i,Ev.step (λk=>by rw[H]) ?_,by omega,hy,?_⟩
  ·simp(disch:=omega) only[Qk]
   exact Ev.pure _
  ·rw[List.drop_eq_nil_of_le (by omega),List.filter_nil,List.append_nil]
 |n+1,j,h,ys,i,hy,hij,hd=>by
  have hj:j<xs.length:=by omega
  have hj':j<ys.length:=by omega
  have hx:ys[j]=xs[j]:=by
   have h0:=congrArg (·[0]?) hd
   simpa[hj,hj']using h0
  have hd1:ys.drop (j+1)=xs.drop (j+1):=by
   have:=congrArg (List.drop 1) hd
   simpa[List.drop_drop]using this
  cases hp:p xs[j]with
  |true=>
   obtain⟨zs,i',h1,h2,h3,h4⟩:=Q61 H hq hl n (j+1) (by omega) ys i hy (by omega) hd1
   refine⟨zs,i',Ev.step (λk=>by rw[H]) ?_,h2,h3,?_⟩
   ·simp(disch:=omega) only[Qa,Int.toNat_natCast,Gq hj',hx]
    refine Ev.bind (hq _ (List.getElem_mem hj)) ?_
    rw[hp]
    simp(disch:=omega) only[Bool.not_true,cond_false,wrap_in]
    exact h1
   ·rw[h4,List.drop_eq_getElem_cons hj,List.filter_cons_of_neg (by rw[hp];decide)]
  |false=>
   obtain⟨zs,i',h1,h2,h3,h4⟩:=Q61 H hq hl n (j+1) (by omega) (ys.set i xs[j]) (i+1) (by simpa using hy) (by omega) (by rw[List.drop_set_of_lt (by omega)];exact hd1)
   refine⟨zs,i',Ev.step (λk=>by rw[H]) ?_,h2,h3,?_⟩
   ·simp(disch:=omega) only[Qa,Int.toNat_natCast,Gq hj',hx]
    refine Ev.bind (hq _ (List.getElem_mem hj)) ?_
    rw[hp]
    simp(disch:=omega) only[Bool.not_false,cond_true,Qa,Int.toNat_natCast,wrap_in]
    exact h1
   ·rw[h4,List.drop_eq_getElem_cons hj,List.filter_cons_of_pos (by rw[hp];decide),List.take_add_one,List.take_set_of_le (Nat.le_refl i)]
    have:(ys.set i xs[j])[i]? =some xs[j]:=by rw[List.getElem?_set_self (by omega)]
    rw[this]
    simp
theorem Q81 {l0:Nat->List α->Int->Int->Option (List α×Int)}(H:∀k x0 x5 x6,l0 (k+1) x0 x5 x6=bif (decide (x6<(x0.length:Int)))then(bif decide (0<=x6)then(bif decide (x6<(x0.length:Int))then((q k (x0.getD ((x6:Int).toNat) d)).bind λr2=>bif (!r2)then(bif decide (0<=x5)then(bif decide (x5<(x0.length:Int))then(l0 k (x0.set ((x5:Int).toNat) (x0.getD ((x6:Int).toNat) d)) (IntKind.wrap .i64 (x5+1)) (IntKind.wrap .i64 (x6+1)))else none)else none)else(l0 k x0 x5 (IntKind.wrap .i64 (x6+1))))else none)else none)else(some (x0,x5)))
  (hq:∀x,x∈xs->Ev (λk=>q k x) (p x)) (hl:xs.length<=4611686018427387904) {I F:Nat->List α->Option _} {e:α}
  (hI:∃r:Int,Ev (λk=>I k xs) r/\((r= -1/\∀x∈xs,p x=false)\/∃j:Nat,r=j/\j<xs.length/\p (xs.getD j d)=true/\∀x∈xs.take j,p x=false))
  (HF:∀k a0,F k a0=(I k a0).bind λr1=>bif (r1==(-1))then(some a0)else((l0 k a0 r1 (IntKind.wrap .i64 (r1+1))).bind λy3=>bif decide (0<=y3.2)then(bif decide (y3.2<=(y3.1.length:Int))then(bif decide (0<=y3.2)then(bif decide (y3.2<=((y3.1.take ((y3.2:Int).toNat)++List.replicate (y3.1.length-((y3.2:Int).toNat)) e).length:Int))then(some ((y3.1.take ((y3.2:Int).toNat)++List.replicate (y3.1.length-((y3.2:Int).toNat)) e).take (y3.2:Int).toNat))else none)else none)else none)else none)) :
  Ev (λk=>F k xs) (xs.filter λx=> !p x):=by
 obtain⟨r,h1,h2⟩:=hI
 refine Ev.congr (?_:Ev _ _) (λk=>HF k xs)
 refine Ev.bind h1 ?_
 rcases h2 with⟨rfl,h2⟩|⟨j,rfl,hj,hp,h2⟩
 ·have:(xs.filter λx=> !p x)=xs:=List.filter_eq_self.2 λx hx=>by rw[h2 x hx];rfl
  rw[this]
  exact Ev.pure _
 ·obtain⟨zs,i',h3,h4,h5,h6⟩:=Q61 H hq hl (xs.length-(j+1)) (j+1) (by omega) xs j rfl (by omega) rfl
  rw[Gq hj]at hp
  have hz:zs.take i'=xs.filter λx=> !p x:=by
   rw[h6]
   conv=>rhs;rw[<-List.take_append_drop j xs,List.filter_append,List.drop_eq_getElem_cons hj,List.filter_cons_of_neg (by rw[hp];decide)]
   congr 1
   exact(List.filter_eq_self.2 λx hx=>by rw[h2 x hx];rfl).symm
  simp(disch:=omega) only[cne,wrap_in]
  refine Ev.bind h3 ?_
  have e1:((zs.take i'++List.replicate (zs.length-i') e)).length=zs.length:=by simp;omega
  simp(disch:=(try simp only[Int.toNat_natCast,e1]);omega) only[Qa,Int.toNat_natCast,e1]
  rw[List.take_append_of_le_length (by simp;omega),List.take_take,Nat.min_self,hz]
  exact Ev.pure _
end
end Go.Gx
end
section
/- Plain laws: keys,names,dates,entries,libraries: are they valid? -/
namespace Go.Proofs.YtoojiikgbopeiaaGreatDoor
open Go.Gx
theorem DL (a b c:Int):Z56.F a b c=some (decide (a ≥ b)&&decide (a<=c)):=by
 unfold Z56.F
 cases decide (a ≥ b)<;>rfl
theorem Jx (a b c:Int):Z52.F a b c=some (decide (a ≥ b)&&decide (a<=c)):=by
 unfold Z52.F
 cases decide (a ≥ b)<;>rfl
theorem QI {f:Nat->Option Bool}{b c:Bool}(h:b=true->Ev f c):Ev (λk=>bif (!b)then some false else f k) (b&&c):=by
 cases b with
 |false=>exact Ev.pure _
 |true=>exact h rfl
theorem J6 {f:Nat->Option Bool}{b c:Bool}(h:b=true->Ev f c):Ev (λk=>bif b then f k else some false) (b&&c):=by
 cases b with
 |false=>exact Ev.pure _
 |true=>exact h rfl
def Gs (b:Int):Bool:=decide (97<=b)&&decide (b<=122)
def upc (b:Int):Bool:=decide (65<=b)&&decide (b<=90)
def ltr (b:Int):Bool:=upc b||Gs b
def dig (b:Int):Bool:=decide (48<=b)&&decide (b<=57)
theorem Gt (b:Int):Z66.F b=some (Gs b):=by
 unfold Z66.F Gs
 simp only[ge_iff_le]
 cases decide (97<=b)<;>rfl
theorem Q3s (b:Int):Z75.F b=some (upc b):=by
 unfold Z75.F upc
 simp only[ge_iff_le]
 cases decide (65<=b)<;>rfl
theorem Q0o (b:Int):Z72.F b=some (ltr b):=by
 unfold Z72.F ltr
 rw[Q3s,Gt]
 cases upc b<;>rfl
theorem Gu (b:Int):Z58.F b=some (Gs b):=by
 unfold Z58.F Gs
 simp only[ge_iff_le]
 cases decide (97<=b)<;>rfl
theorem Q9O (b:Int):Z64.F b=some (upc b):=by
 unfold Z64.F upc
 simp only[ge_iff_le]
 cases decide (65<=b)<;>rfl
theorem KF (b:Int):Z65.F b=some (ltr b):=by
 unfold Z65.F ltr
 rw[Q9O,Gu]
 cases upc b<;>rfl
theorem Q9P (b:Int):Z74.F b=some (dig b):=by
 unfold Z74.F dig
 simp only[ge_iff_le]
 cases decide (48<=b)<;>rfl
def ins (n:Nat)(lo hi:Int):Bool:=decide ((n:Int) ≥ lo)&&decide ((n:Int)<=hi)
theorem XX {n:Nat}{lo hi:Int}(h:ins n lo hi=true):lo<=n/\(n:Int)<=hi:=by
 unfold ins at h
 simp only[Bool.and_eq_true,decide_eq_true_eq]at h
 exact h
def kb (s:ByteArray)(i:Nat):Bool:=Gs (bt s i)||dig (bt s i)
def Q62 (s:ByteArray):Bool:=ins s.size 1 10&&(Gs (bt s 0)&&(List.range' 0 s.size).all (kb s))
theorem Q63 (s:ByteArray)(hs:s.size<=10):Ev (λk=>Z21.l0 k s ((0:Nat):Int)) (if(List.range' 0 s.size).all (kb s)=true then .inr ()else .inl false):=by
 refine Jn (f:=λk i=>Z21.l0 k s i) (n:=s.size) (λi hi hp=>?_) (λi r hi hp ih=>?_) ?_ s.size 0 (by omega)
 ·refine Ev.step (λk=>by rw[Z21.l0]) ?_
  unfold kb at hp
  rw[Bool.or_eq_false_iff]at hp
  simp(disch:=omega) only[Qa,Int.toNat_natCast]
  refine Ev.bind0 (Gt _) ?_
  rw[hp.1]
  have h2:=hp.2
  unfold dig at h2
  by_cases c:bt s i<48
  ·simp(disch:=omega) only[Qa,Bool.not_false,cond_true]
   exact Ev.pure _
  ·have c2:bt s i > 57:=by
    rw[decide_eq_true (show 48<=bt s i by omega),Bool.true_and,decide_eq_false_iff_not]at h2
    omega
   simp(disch:=omega) only[Qa,Qk,Bool.not_false,cond_true]
   exact Ev.pure _
 ·refine Ev.step (λk=>by rw[Z21.l0]) ?_
  simp(disch:=omega) only[Qa,Int.toNat_natCast]
  refine Ev.bind0 (Gt _) ?_
  cases hl:Gs (bt s i)with
  |true=>
   simp(disch:=omega) only[Bool.not_true,cond_false,wrap_in]
   exact ih
  |false=>
   unfold kb at hp
   rw[hl,Bool.false_or]at hp
   unfold dig at hp
   simp only[Bool.and_eq_true,decide_eq_true_eq]at hp
   simp(disch:=omega) only[Bool.not_false,cond_true,Qa,Qk,wrap_in]
   exact ih
 ·refine Ev.step (λk=>by rw[Z21.l0]) ?_
  simp(disch:=omega) only[Qk]
  exact Ev.pure _
theorem Q9Q (s:ByteArray)(hs:s.size<=10):Ev (λk=>Z22.l0 k s ((0:Nat):Int)) (if(List.range' 0 s.size).all (kb s)=true then .inr ()else .inl false):=by
 refine Jn (f:=λk i=>Z22.l0 k s i) (n:=s.size) (λi hi hp=>?_) (λi r hi hp ih=>?_) ?_ s.size 0 (by omega)
 ·refine Ev.step (λk=>by rw[Z22.l0]) ?_
  unfold kb at hp
  rw[Bool.or_eq_false_iff]at hp
  simp(disch:=omega) only[Qa,Int.toNat_natCast]
  refine Ev.bind0 (Gu _) ?_
  rw[hp.1]
  simp(disch:=omega) only[Bool.not_false,cond_true,Qa]
  refine Ev.bind0 (Q9P _) ?_
  rw[hp.2]
  exact Ev.pure _
 ·refine Ev.step (λk=>by rw[Z22.l0]) ?_
  simp(disch:=omega) only[Qa,Int.toNat_natCast]
  refine Ev.bind0 (Gu _) ?_
  cases hl:Gs (bt s i)with
  |true=>
   simp(disch:=omega) only[Bool.not_true,cond_false,wrap_in]
   exact ih
  |false=>
   unfold kb at hp
   rw[hl,Bool.false_or]at hp
   simp(disch:=omega) only[Bool.not_false,cond_true,Qa]
   refine Ev.bind0 (Q9P _) ?_
   rw[hp]
   simp(disch:=omega) only[Bool.not_true,cond_false,wrap_in]
   exact ih
 ·refine Ev.step (λk=>by rw[Z22.l0]) ?_
  simp(disch:=omega) only[Qk]
  exact Ev.pure _
theorem Q1q (s:ByteArray):Ev (λk=>Z21.F k s) (Q62 s):=by
 unfold Z21.F Q62
 refine Ev.bind0 (DL _ _ _) (QI λh=>?_)
 obtain⟨h1,h2⟩:=XX h
 simp(disch:=omega) only[Qa,show(0:Int).toNat=0 from rfl]
 refine Ev.bind0 (Gt _) (QI λ_=>?_)
 have:=Q63 s (by omega)
 cases ha:(List.range' 0 s.size).all (kb s)with
 |true=>rw[ha]at this;exact Ev.bind this (Ev.pure _)
 |false=>rw[ha]at this;exact Ev.bind this (Ev.pure _)
theorem Q4F (s:ByteArray):Ev (λk=>Z22.F k s) (Q62 s):=by
 unfold Z22.F Q62
 refine Ev.bind0 (Jx _ _ _) (QI λh=>?_)
 obtain⟨h1,h2⟩:=XX h
 simp(disch:=omega) only[Qa,show(0:Int).toNat=0 from rfl]
 refine Ev.bind0 (Gu _) (QI λ_=>?_)
 have:=Q9Q s (by omega)
 cases ha:(List.range' 0 s.size).all (kb s)with
 |true=>rw[ha]at this;exact Ev.bind this (Ev.pure _)
 |false=>rw[ha]at this;exact Ev.bind this (Ev.pure _)
def wp (s:ByteArray)(i:Nat):Bool:=ltr (bt s i)||((bt s i==45||bt s i==39)&&ltr (bt s (i-1)))
def Ul (s:ByteArray):Bool:=ins s.size 1 12&&(ltr (bt s 0)&&(ltr (bt s (s.size-1))&&(List.range' 1 (s.size-1)).all (wp s)))
theorem Qbu {s:ByteArray}{i:Nat}(h:ltr (bt s i)=false)(h1:bt s i≠45)(h2:bt s i≠39):wp s i=false:=by
 unfold wp
 rw[h,show(bt s i==45)=false by simpa using h1,show(bt s i==39)=false by simpa using h2];rfl
theorem Q9R {s:ByteArray}{i:Nat}(h:ltr (bt s i)=false)(h1:bt s i=45\/bt s i=39):wp s i=ltr (bt s (i-1)):=by
 unfold wp
 rw[h]
 rcases h1 with h1|h1<;>rw[h1]<;>simp
theorem GY (s:ByteArray)(hs:s.size<=12):∀m i:Nat,i+m=s.size->1<=i->Ev (λk=>Z17.l0 k s i) (if(List.range' i m).all (wp s)=true then .inr ()else .inl false)
 |0,i,h,h1=>by
  refine Ev.step (λk=>by rw[Z17.l0]) ?_
  simp(disch:=omega) only[Qk]
  exact Ev.pure _
 |m+1,i,h,h1=>by
  have ih:=GY s hs m (i+1) (by omega) (by omega)
  have et:((i:Int)-1).toNat=i-1:=by omega
  refine Ev.step (λk=>by rw[Z17.l0]) ?_
  rw[List.range'_succ,List.all_cons]
  simp(disch:=omega) only[Qa,Int.toNat_natCast]
  refine Ev.bind0 (Q0o _) ?_
  cases hl:ltr (bt s i)with
  |true=>
   have:wp s i=true:=by unfold wp;rw[hl];rfl
   rw[this]
   simp(disch:=omega) only[Bool.not_true,cond_false,Bool.true_and,wrap_in]
   exact ih
  |false=>
   have fin:(bt s i=45\/bt s i=39)->Ev (λk=>(Z72.F (bt s (i-1))).bind λr5=>bif (!r5)then(some (.inl false))else(Z17.l0 k s ((i:Int)+1))) (if(wp s i&&(List.range' (i+1) m).all (wp s))=true then .inr ()else .inl false):=λhh=>by
    refine Ev.bind0 (Q0o _) ?_
    rw[Q9R hl hh]
    cases ltr (bt s (i-1))with
    |true=>exact ih
    |false=>exact Ev.pure _
   by_cases c1:bt s i=45
   ·simp(disch:=first|exact c1|omega) only[Bool.not_false,cond_true,Qa,Gm,wrap_in,et]
    exact fin (.inl c1)
   ·by_cases c2:bt s i=39
    ·simp(disch:=first|exact c1|exact c2|omega) only[Bool.not_false,cond_true,Qa,Q1g,Gm,wrap_in,et]
     exact fin (.inr c2)
    ·rw[Qbu hl c1 c2]
     simp(disch:=first|exact c1|exact c2|omega) only[Bool.not_false,cond_true,Qa,Q1g]
     exact Ev.pure _
theorem Q2I (s:ByteArray)(hs:s.size<=12):∀m i:Nat,i+m=s.size->1<=i->Ev (λk=>Z18.l0 k s i) (if(List.range' i m).all (wp s)=true then .inr ()else .inl false)
 |0,i,h,h1=>by
  refine Ev.step (λk=>by rw[Z18.l0]) ?_
  simp(disch:=omega) only[Qk]
  exact Ev.pure _
 |m+1,i,h,h1=>by
  have ih:=Q2I s hs m (i+1) (by omega) (by omega)
  have et:((i:Int)-1).toNat=i-1:=by omega
  refine Ev.step (λk=>by rw[Z18.l0]) ?_
  rw[List.range'_succ,List.all_cons]
  simp(disch:=omega) only[Qa,Int.toNat_natCast]
  refine Ev.bind0 (KF _) ?_
  cases hl:ltr (bt s i)with
  |true=>
   have:wp s i=true:=by unfold wp;rw[hl];rfl
   rw[this]
   simp(disch:=omega) only[Bool.not_true,cond_false,Bool.true_and,wrap_in]
   exact ih
  |false=>
   have fin:(bt s i=45\/bt s i=39)->Ev (λk=>(Z65.F (bt s (i-1))).bind λr5=>bif (!r5)then(some (.inl false))else(Z18.l0 k s ((i:Int)+1))) (if(wp s i&&(List.range' (i+1) m).all (wp s))=true then .inr ()else .inl false):=λhh=>by
    refine Ev.bind0 (KF _) ?_
    rw[Q9R hl hh]
    cases ltr (bt s (i-1))with
    |true=>exact ih
    |false=>exact Ev.pure _
   by_cases c1:bt s i=45
   ·simp(disch:=first|exact c1|omega) only[Bool.not_false,cond_true,Qa,Gm,wrap_in,et]
    exact fin (.inl c1)
   ·by_cases c2:bt s i=39
    ·simp(disch:=first|exact c1|exact c2|omega) only[Bool.not_false,cond_true,Qa,Q1g,Gm,wrap_in,et]
     exact fin (.inr c2)
    ·rw[Qbu hl c1 c2]
     simp(disch:=first|exact c1|exact c2|omega) only[Bool.not_false,cond_true,Qa,Q1g]
     exact Ev.pure _
theorem Yo (s:ByteArray):Ev (λk=>Z17.F k s) (Ul s):=by
 unfold Z17.F Ul
 refine Ev.bind0 (DL _ _ _) (QI λh=>?_)
 obtain⟨h1,h2⟩:=XX h
 have et:((s.size:Int)-1).toNat=s.size-1:=by omega
 simp(disch:=omega) only[Qa,show(0:Int).toNat=0 from rfl,wrap_in,et]
 refine Ev.bind0 (Q0o _) (QI λ_=>?_)
 refine Ev.bind0 (Q0o _) (QI λ_=>?_)
 have:=GY s (by omega) (s.size-1) 1 (by omega) (Nat.le_refl _)
 cases ha:(List.range' 1 (s.size-1)).all (wp s)with
 |true=>rw[ha]at this;exact Ev.bind this (Ev.pure _)
 |false=>rw[ha]at this;exact Ev.bind this (Ev.pure _)
theorem Q2J (s:ByteArray):Ev (λk=>Z18.F k s) (Ul s):=by
 unfold Z18.F Ul
 refine Ev.bind0 (Jx _ _ _) (QI λh=>?_)
 obtain⟨h1,h2⟩:=XX h
 have et:((s.size:Int)-1).toNat=s.size-1:=by omega
 simp(disch:=omega) only[Qa,show(0:Int).toNat=0 from rfl,wrap_in,et]
 refine(Ev.bind0 (KF _) (QI (c:=ltr (bt s 0)&&(List.range' 1 (s.size-1)).all (wp s)) λ_=>?_)).eq (Bool.and_left_comm _ _ _)
 refine Ev.bind0 (KF _) (QI λh0=>?_)
 have:=Q2I s (by omega) (s.size-1) 1 (by omega) (Nat.le_refl _)
 refine Ev.bind (a:=if(List.range' 1 (s.size-1)).all (wp s)=true then .inr ()else .inl false) ?_ ?_
 ·refine Ev.step (λk=>by rw[Z18.l0]) ?_
  simp(disch:=omega) only[Qa,show(0:Int).toNat=0 from rfl]
  refine Ev.bind0 (KF _) ?_
  rw[h0]
  simp(disch:=omega) only[Bool.not_true,cond_false,wrap_in]
  exact this
 ·cases (List.range' 1 (s.size-1)).all (wp s)<;>exact Ev.pure _
def Q64 (s:ByteArray):Bool:=(List.range' 0 s.size).all λi=>Gs (bt s i)
theorem Q82 {s:ByteArray}(h:Q64 s=true):Ul s=ins s.size 1 12:=by
 unfold Q64 at h
 rw[List.all_eq_true]at h
 have hl:∀i,i<s.size->ltr (bt s i)=true:=λi hi=>by
  unfold ltr
  rw[h i (by rw[List.mem_range'_1];omega),Bool.or_true]
 unfold Ul
 cases hi:ins s.size 1 12 with
 |false=>rfl
 |true=>
  obtain⟨h1,h2⟩:=XX hi
  rw[hl 0 (by omega),hl (s.size-1) (by omega)]
  have:(List.range' 1 (s.size-1)).all (wp s)=true:=by
   rw[List.all_eq_true]
   intro i hi
   rw[List.mem_range'_1]at hi
   unfold wp
   rw[hl i (by omega)];rfl
  rw[this];rfl
def pw (s:ByteArray):Bool:=ins s.size 1 12&&Q64 s
theorem Qbv (s:ByteArray):(Ul s&&Q64 s)=pw s:=by
 unfold pw
 cases h:Q64 s with
 |false=>rw[Bool.and_false,Bool.and_false]
 |true=>rw[Q82 h]
def Xc (s:ByteArray):Bool:=decide (s.size=0)||((words s).all pw&&decide ((words s).length<=2))
theorem Xd (s:ByteArray):Qr s ⟨#[]⟩=decide (s.size=0):=by
 rw[<-Bool.not_not (b:=Qr s ⟨#[]⟩),Q1k]
 by_cases hz:s.size=0
 ·simp[hz]
 ·rw[decide_eq_true (by omega:0<s.size),decide_eq_false hz];rfl
theorem GZ (W:List ByteArray)(i:Nat)(hi:i<W.length)(hs:W[i].size<=1048576):Ev (λk=>Z7.l2 k W i ((0:Nat):Int)) (if Q64 W[i]=true then .inr (W,(i:Int))else .inl false):=by
 refine Jn (f:=λk j=>Z7.l2 k W i j) (n:=W[i].size) (p:=λj=>Gs (bt W[i] j)) (λj hj hp=>?_) (λj r hj hp ih=>?_) ?_ W[i].size 0 (by omega)
 ·refine Ev.step (λk=>by rw[Z7.l2]) ?_
  simp(disch:=omega) only[Qa,Int.toNat_natCast,getD_at hi]
  refine Ev.bind0 (Gt _) ?_
  rw[hp]
  exact Ev.pure _
 ·refine Ev.step (λk=>by rw[Z7.l2]) ?_
  simp(disch:=omega) only[Qa,Int.toNat_natCast,getD_at hi]
  refine Ev.bind0 (Gt _) ?_
  rw[hp]
  simp(disch:=omega) only[Bool.not_true,cond_false,wrap_in]
  exact ih
 ·refine Ev.step (λk=>by rw[Z7.l2]) ?_
  simp(disch:=omega) only[Qa,Qk,Int.toNat_natCast,getD_at hi]
  exact Ev.pure _
theorem Q2K (W:List ByteArray)(w:ByteArray)(n i:Int)(hs:w.size<=1048576):Ev (λk=>Z8.l2 k W w ((0:Nat):Int) n i) (if Q64 w=true then .inr (W,n,i)else .inl false):=by
 refine Jn (f:=λk j=>Z8.l2 k W w j n i) (n:=w.size) (p:=λj=>Gs (bt w j)) (λj hj hp=>?_) (λj r hj hp ih=>?_) ?_ w.size 0 (by omega)
 ·refine Ev.step (λk=>by rw[Z8.l2]) ?_
  simp(disch:=omega) only[Qa,Int.toNat_natCast]
  refine Ev.bind0 (Gu _) ?_
  rw[hp]
  exact Ev.pure _
 ·refine Ev.step (λk=>by rw[Z8.l2]) ?_
  simp(disch:=omega) only[Qa,Int.toNat_natCast]
  refine Ev.bind0 (Gu _) ?_
  rw[hp]
  simp(disch:=omega) only[Bool.not_true,cond_false,wrap_in]
  exact ih
 ·refine Ev.step (λk=>by rw[Z8.l2]) ?_
  simp(disch:=omega) only[Qk]
  exact Ev.pure _
theorem Q4G (W:List ByteArray)(hl:W.length<=1048577)(hW:∀x∈W,x.size<=1048576):Ev (λk=>Z7.l0 k W ((0:Nat):Int)) (if(List.range' 0 W.length).all (λi=>pw (W.getD i ⟨#[]⟩))=true then .inr W else .inl false):=by
 refine Jn (f:=λk j=>Z7.l0 k W j) (n:=W.length) (p:=λi=>pw (W.getD i ⟨#[]⟩)) (λj hj hp=>?_) (λj r hj hp ih=>?_) ?_ W.length 0 (by omega)
 ·rw[getD_at hj,<-Qbv]at hp
  refine Ev.step (λk=>by rw[Z7.l0]) ?_
  simp(disch:=omega) only[Qa,Int.toNat_natCast,getD_at hj]
  refine Ev.bind (Yo _) ?_
  cases hw:Ul W[j]with
  |false=>exact Ev.pure _
  |true=>
   rw[hw,Bool.true_and]at hp
   have:=GZ W j hj (hW _ (List.getElem_mem hj))
   rw[hp]at this
   exact Ev.bind this (Ev.pure _)
 ·rw[getD_at hj,<-Qbv,Bool.and_eq_true]at hp
  refine Ev.step (λk=>by rw[Z7.l0]) ?_
  simp(disch:=omega) only[Qa,Int.toNat_natCast,getD_at hj]
  refine Ev.bind (Yo _) ?_
  rw[hp.1]
  have:=GZ W j hj (hW _ (List.getElem_mem hj))
  rw[hp.2]at this
  refine Ev.bind (a:=.inr (W,(j:Int))) this ?_
  simp(disch:=omega) only[wrap_in]
  exact ih
 ·refine Ev.step (λk=>by rw[Z7.l0]) ?_
  simp(disch:=omega) only[Qk]
  exact Ev.pure _
theorem Q83 (W:List ByteArray)(hl:W.length<=1048577)(hW:∀x∈W,x.size<=1048576):Ev (λk=>Z8.l0 k W W.length ((0:Nat):Int)) (if(List.range' 0 W.length).all (λi=>pw (W.getD i ⟨#[]⟩))=true then .inr W else .inl false):=by
 refine Jn (f:=λk j=>Z8.l0 k W W.length j) (n:=W.length) (p:=λi=>pw (W.getD i ⟨#[]⟩)) (λj hj hp=>?_) (λj r hj hp ih=>?_) ?_ W.length 0 (by omega)
 ·rw[getD_at hj]at hp
  unfold pw at hp
  refine Ev.step (λk=>by rw[Z8.l0]) ?_
  simp(disch:=omega) only[Qa,Int.toNat_natCast,getD_at hj]
  refine Ev.bind0 (Jx _ _ _) ?_
  cases hw:ins W[j].size 1 12 with
  |false=>
   unfold ins at hw
   rw[hw]
   exact Ev.pure _
  |true=>
   rw[hw,Bool.true_and]at hp
   unfold ins at hw
   rw[hw]
   have:=Q2K W W[j] W.length j (hW _ (List.getElem_mem hj))
   rw[hp]at this
   exact Ev.bind this (Ev.pure _)
 ·rw[getD_at hj]at hp
  unfold pw at hp
  rw[Bool.and_eq_true]at hp
  obtain⟨hp1,hp2⟩:=hp
  unfold ins at hp1
  refine Ev.step (λk=>by rw[Z8.l0]) ?_
  simp(disch:=omega) only[Qa,Int.toNat_natCast,getD_at hj]
  refine Ev.bind0 (Jx _ _ _) ?_
  rw[hp1]
  have:=Q2K W W[j] W.length j (hW _ (List.getElem_mem hj))
  rw[hp2]at this
  refine Ev.bind (a:=.inr (W,(W.length:Int),(j:Int))) this ?_
  simp(disch:=omega) only[wrap_in]
  exact ih
 ·refine Ev.step (λk=>by rw[Z8.l0]) ?_
  simp(disch:=omega) only[Qk]
  exact Ev.pure _
theorem Q4H (s:ByteArray)(hs:s.size<=1048576):Ev (λk=>Z7.F k s) (Xc s):=by
 unfold Z7.F Xc
 rw[Xd]
 cases decide (s.size=0)with
 |true=>exact Ev.pure _
 |false=>
  refine Ev.bind (Q3q s hs) ?_
  have:=Q4G (words s) (by have:=(KE s).2;omega) (λx hx=>by have:=UA _ _ x hx;omega)
  rw[Gn (words s) ⟨#[]⟩ pw]at this
  rw[Bool.false_or]
  cases ha:(words s).all pw with
  |true=>
   rw[ha]at this
   refine Ev.bind this ((Ev.pure _).eq ?_)
   rw[Bool.true_and];exact decide_eq_decide.2 (by omega)
  |false=>rw[ha]at this;exact Ev.bind this (Ev.pure _)
theorem Q84 (s:ByteArray)(hs:s.size<=1048576):Ev (λk=>Z8.F k s) (Xc s):=by
 unfold Z8.F Xc
 rw[Xd]
 cases decide (s.size=0)with
 |true=>exact Ev.pure _
 |false=>
  refine Ev.bind0 (Q4C s hs) ?_
  have:=Q83 (words s) (by have:=(KE s).2;omega) (λx hx=>by have:=UA _ _ x hx;omega)
  rw[Gn (words s) ⟨#[]⟩ pw]at this
  rw[Bool.false_or]
  cases ha:(words s).all pw with
  |true=>
   rw[ha]at this
   refine Ev.bind this ((Ev.pure _).eq ?_)
   rw[Bool.true_and];exact decide_eq_decide.2 (by omega)
  |false=>rw[ha]at this;exact Ev.bind this (Ev.pure _)
def gw (s:ByteArray):Bool:=Ul s&&upc (bt s 0)
theorem KG {s:ByteArray}(h:Ul s=true):1<=s.size:=by
 unfold Ul at h
 rw[Bool.and_eq_true]at h
 have:=(XX h.1).1
 omega
theorem Q1r (s:ByteArray):Ev (λk=>Z78.F k s) (gw s):=by
 unfold Z78.F gw
 refine Ev.bind (Q2J s) (J6 λh=>?_)
 have:=KG h
 simp(disch:=omega) only[Qa,show(0:Int).toNat=0 from rfl]
 exact Ev.bind0 (Q9O _) (Ev.pure _)
def Q9S (s:ByteArray):Bool:=decide (s.size=0)||Ul s
def nameB (n:Name):Bool:=n.given.all gw&&(decide (n.given.length<=3)&&(Xc n.particle&&(gw n.family&&Q9S n.suffix)))
theorem Q4I (n:Name)(hn:n.given.length<=1048576):Ev (λk=>Z31.l0 k n ((0:Nat):Int)) (if(List.range' 0 n.given.length).all (λi=>gw (n.given.getD i ⟨#[]⟩))=true then .inr n else .inl false):=by
 refine Jn (f:=λk j=>Z31.l0 k n j) (n:=n.given.length) (p:=λi=>gw (n.given.getD i ⟨#[]⟩)) (λj hj hp=>?_) (λj r hj hp ih=>?_) ?_ n.given.length 0 (by omega)
 ·rw[getD_at hj]at hp
  unfold gw at hp
  refine Ev.step (λk=>by rw[Z31.l0]) ?_
  simp(disch:=omega) only[Qa,Int.toNat_natCast,getD_at hj]
  refine Ev.bind (Yo _) ?_
  cases hw:Ul n.given[j]with
  |false=>exact Ev.pure _
  |true=>
   rw[hw,Bool.true_and]at hp
   have:=KG hw
   simp(disch:=omega) only[Qa,show(0:Int).toNat=0 from rfl,Bool.not_true,cond_false]
   refine Ev.bind0 (Q3s _) ?_
   rw[hp]
   exact Ev.pure _
 ·rw[getD_at hj]at hp
  unfold gw at hp
  rw[Bool.and_eq_true]at hp
  have:=KG hp.1
  refine Ev.step (λk=>by rw[Z31.l0]) ?_
  simp(disch:=omega) only[Qa,Int.toNat_natCast,getD_at hj]
  refine Ev.bind (Yo _) ?_
  rw[hp.1]
  simp(disch:=omega) only[Qa,show(0:Int).toNat=0 from rfl,Bool.not_true,cond_false]
  refine Ev.bind0 (Q3s _) ?_
  rw[hp.2]
  simp(disch:=omega) only[Bool.not_true,cond_false,wrap_in]
  exact ih
 ·refine Ev.step (λk=>by rw[Z31.l0]) ?_
  simp(disch:=omega) only[Qk]
  exact Ev.pure _
theorem Q00 (n:Name)(hs:Xx n):Ev (λk=>Z31.F k n) (nameB n):=by
 have hg:n.given.length<=1048576:=by unfold Xx Q1V at hs;omega
 have hp:n.particle.size<=1048576:=by unfold Xx Q1V at hs;omega
 unfold Z31.F nameB
 have:=Q4I n hg
 rw[Gn n.given ⟨#[]⟩ gw]at this
 cases ha:n.given.all gw with
 |false=>rw[ha]at this;exact Ev.bind this (Ev.pure _)
 |true=>
  rw[ha]at this
  refine Ev.bind (a:=.inr n) this ?_
  dsimp only
  rw[Bool.true_and,show decide (n.given.length<=3)=decide ((n.given.length:Int)<=3)from decide_eq_decide.2 (by omega)]
  refine J6 λ_=>?_
  refine Ev.bind (Q4H _ hp) (J6 λ_=>?_)
  unfold gw
  rw[Bool.and_assoc]
  refine Ev.bind (Yo _) (J6 λh=>?_)
  have:=KG h
  simp(disch:=omega) only[Qa,show(0:Int).toNat=0 from rfl]
  refine Ev.bind0 (Q3s _) (J6 λ_=>?_)
  unfold Q9S
  rw[Xd]
  cases decide (n.suffix.size=0)with
  |true=>exact Ev.pure _
  |false=>exact Ev.bind (Yo _) (Ev.pure _)
theorem Q85 (n:Name)(hs:Xx n):Ev (λk=>Z102.F k n) (nameB n):=by
 have hg:n.given.length<=1048576:=by unfold Xx Q1V at hs;omega
 have hp:n.particle.size<=1048576:=by unfold Xx Q1V at hs;omega
 unfold Z102.F nameB
 by_cases c:n.given.length<=3
 ·simp(disch:=omega) only[Qk,Q1h,Bool.true_and]
  have hq:∀x,x∈n.given->Ev (λk=>Z88.F k x) (!gw x):=λx _=>by
   unfold Z88.F
   exact Ev.bind (Q1r x) (Ev.pure _)
  obtain⟨r,h1,h2⟩:=Q60 (d:=(⟨#[]⟩:ByteArray)) (p:=λx=> !gw x) (q:=Z88.F) (xs:=n.given) (l0:=Z48.l0) (λk x0 x7 x8=>by rw[Z48.l0]) hq (by omega) (F:=Z48.F) (λk a0=>rfl)
  refine Ev.bind (a:=!n.given.all gw) ?_ ?_
  ·unfold Z116.F
   refine Ev.bind h1 ((Ev.pure _).eq ?_)
   rcases h2 with⟨rfl,h2⟩|⟨j,rfl,hj,hp,_⟩
   ·have:n.given.all gw=true:=List.all_eq_true.2 λx hx=>by have:=h2 x hx;simpa using this
    rw[this];rfl
   ·have:n.given.all gw=false:=by
     rw[List.all_eq_false]
     refine⟨n.given[j],List.getElem_mem hj,?_⟩
     rw[getD_at hj]at hp
     simpa using hp
    rw[this,decide_eq_true (by omega)];rfl
  ·cases n.given.all gw with
   |false=>exact Ev.pure _
   |true=>
    rw[Bool.true_and]
    refine Ev.bind (Q84 _ hp) (J6 λ_=>?_)
    refine Ev.bind (Q1r _) (J6 λ_=>?_)
    unfold Q9S
    rw[Xd]
    cases decide (n.suffix.size=0)with
    |true=>exact Ev.pure _
    |false=>exact Ev.bind (Q2J _) (Ev.pure _)
 ·simp(disch:=omega) only[Qa,Q0c,Bool.false_and,Bool.and_false]
  exact Ev.pure _
def Y8 (l:List Name):Bool:=l.all nameB&&decide (l.length<=4)
theorem Q01 (l:List Name)(hl:l.length<=1048576)(hs:∀n∈l,Xx n):∀m i:Nat,i+m=l.length->∃r,Ev (λk=>Z27.l0 k l i) r/\(r= .inl false\/r= .inr l)/\(l.length<=4->r=if(l.drop i).all nameB=true then .inr l else .inl false)
 |0,i,h=>by
  refine⟨.inr l,Ev.step (λk=>by rw[Z27.l0]) ?_,.inr rfl,λ_=>by rw[List.drop_eq_nil_of_le (by omega)];rfl⟩
  simp(disch:=omega) only[Qk]
  exact Ev.pure _
 |m+1,i,h=>by
  have hi:i<l.length:=by omega
  by_cases c4:(i:Int)<=4
  ·cases hn:nameB l[i]with
   |false=>
    refine⟨.inl false,Ev.step (λk=>by rw[Z27.l0]) ?_,.inl rfl,λ_=>by rw[List.drop_eq_getElem_cons hi,List.all_cons,hn];rfl⟩
    simp(disch:=omega) only[Qa,Int.toNat_natCast,getD_at hi]
    refine Ev.bind (Q00 _ (hs _ (List.getElem_mem hi))) ?_
    rw[hn]
    exact Ev.pure _
   |true=>
    obtain⟨r,h1,h2,h3⟩:=Q01 l hl hs m (i+1) (by omega)
    refine⟨r,Ev.step (λk=>by rw[Z27.l0]) ?_,h2,λh4=>by rw[h3 h4,List.drop_eq_getElem_cons hi,List.all_cons,hn,Bool.true_and]⟩
    simp(disch:=omega) only[Qa,Int.toNat_natCast,getD_at hi]
    refine Ev.bind (Q00 _ (hs _ (List.getElem_mem hi))) ?_
    rw[hn]
    simp(disch:=omega) only[Bool.not_true,cond_false,wrap_in]
    exact h1
  ·refine⟨.inr l,Ev.step (λk=>by rw[Z27.l0]) ?_,.inr rfl,λh4=>by omega⟩
   simp(disch:=omega) only[Qa,Qk]
   exact Ev.pure _
theorem DN (l:List Name)(hl:XD l<=1048576):Ev (λk=>Z27.F k l) (Y8 l):=by
 unfold Z27.F Y8
 obtain⟨r,h1,h2,h3⟩:=Q01 l (GX hl) (λn hn=>Q1p hl hn) l.length 0 (by omega)
 rw[List.drop_zero]at h3
 have e:decide (l.length<=4)=decide ((l.length:Int)<=4):=decide_eq_decide.2 (by omega)
 rw[e]
 by_cases c:l.length<=4
 ·rw[h3 c]at h1
  cases ha:l.all nameB with
  |true=>rw[ha]at h1;exact Ev.bind h1 (Ev.pure _)
  |false=>rw[ha]at h1;exact Ev.bind h1 (Ev.pure _)
 ·rw[decide_eq_false (show¬(l.length:Int)<=4 by omega),Bool.and_false]
  rcases h2 with rfl|rfl
  ·exact Ev.bind h1 (Ev.pure _)
  ·exact Ev.bind h1 ((Ev.pure _).eq (decide_eq_false (by omega)))
theorem Q02 (l:List Name)(hl:XD l<=1048576):Ev (λk=>Z90.F k l) (Y8 l):=by
 have hlen:=GX hl
 unfold Z90.F Y8
 by_cases c:l.length<=4
 ·simp(disch:=omega) only[Qa,Q1h,Bool.and_true]
  have hq:∀x,x∈l->Ev (λk=>Z89.F k x) (!nameB x):=λx hx=>by
   unfold Z89.F
   exact Ev.bind (Q85 x (Q1p hl hx)) (Ev.pure _)
  obtain⟨r,h1,h2⟩:=Q60 (d:=(Q4 .name:Name)) (p:=λx=> !nameB x) (q:=Z89.F) (xs:=l) (l0:=Z49.l0) (λk x0 x7 x8=>by rw[Z49.l0]) hq (by omega) (F:=Z49.F) (λk a0=>rfl)
  refine Ev.bind (a:=!l.all nameB) ?_ ?_
  ·unfold Z117.F
   refine Ev.bind h1 ((Ev.pure _).eq ?_)
   rcases h2 with⟨rfl,h2⟩|⟨j,rfl,hj,hp,_⟩
   ·have:l.all nameB=true:=List.all_eq_true.2 λx hx=>by have:=h2 x hx;simpa using this
    rw[this];rfl
   ·have:l.all nameB=false:=by
     rw[List.all_eq_false]
     refine⟨l[j],List.getElem_mem hj,?_⟩
     rw[getD_at hj]at hp
     simpa using hp
    rw[this,decide_eq_true (by omega)];rfl
  ·rw[Bool.not_not];exact Ev.pure _
 ·simp(disch:=omega) only[Qk,Q0c,Bool.and_false]
  exact Ev.pure _
theorem Qb1 (y m:Int)(hy:0<=y):∃r,Z97.F y m=some r/\Z91.F y m=some r:=by
 have e1:Int.tmod y 4=y % 4:=Int.tmod_eq_emod_of_nonneg hy
 have e2:Int.tmod y 100=y % 100:=Int.tmod_eq_emod_of_nonneg hy
 have e3:Int.tmod y 400=y % 400:=Int.tmod_eq_emod_of_nonneg hy
 have z1:((4:Nat)==0)=false:=rfl
 have z2:((100:Nat)==0)=false:=rfl
 have z3:((400:Nat)==0)=false:=rfl
 unfold Z97.F Z91.F
 rw[e1,e2,e3]
 by_cases c2:m=2
 ·by_cases d1:y % 4=0
  ·by_cases d2:y % 100=0
   ·by_cases d3:y % 400=0
    ·exact⟨29,by simp(disch:=first|assumption|omega) only[ceq,Gm,z1,z2,z3,cond_false],by simp(disch:=first|assumption|omega) only[ceq,Gm,z1,z2,z3,cond_false]⟩
    ·exact⟨28,by simp(disch:=first|assumption|omega) only[ceq,cne,Gm,z1,z2,z3,cond_false],by simp(disch:=first|assumption|omega) only[ceq,cne,Gm,z1,z2,z3,cond_false]⟩
   ·exact⟨29,by simp(disch:=first|assumption|omega) only[ceq,Q1g,z1,z2,z3,cond_false],by simp(disch:=first|assumption|omega) only[ceq,Q1g,z1,z2,z3,cond_false]⟩
  ·have d3:y % 400≠0:=by omega
   exact⟨28,by simp(disch:=first|assumption|omega) only[ceq,cne,z1,z2,z3,cond_false],by simp(disch:=first|assumption|omega) only[ceq,cne,z1,z2,z3,cond_false]⟩
 ·by_cases a:m=4
  ·exact⟨30,by simp(disch:=first|assumption|omega) only[ceq,cne],by simp(disch:=first|assumption|omega) only[ceq,cne]⟩
  ·by_cases b:m=6
   ·exact⟨30,by simp(disch:=first|assumption|omega) only[ceq,cne],by simp(disch:=first|assumption|omega) only[ceq,cne]⟩
   ·by_cases c:m=9
    ·exact⟨30,by simp(disch:=first|assumption|omega) only[ceq,cne],by simp(disch:=first|assumption|omega) only[ceq,cne]⟩
    ·by_cases d:m=11
     ·exact⟨30,by simp(disch:=first|assumption|omega) only[ceq,cne],by simp(disch:=first|assumption|omega) only[ceq,cne]⟩
     ·exact⟨31,by simp(disch:=first|assumption|omega) only[cne],by simp(disch:=first|assumption|omega) only[cne]⟩
theorem Q1s (d:Date):∃b,Z82.F d=some b/\Z92.F d=some b:=by
 unfold Z82.F Z92.F
 cases (d.y==0&&(d.m==0&&(d.d==0&&d.c==false)))with
 |true=>exact⟨true,rfl,rfl⟩
 |false=>
  rw[DL,Jx]
  simp only[Option.bind_some,cond_false]
  cases h1:(decide (d.y ≥ 1)&&decide (d.y<=2999))with
  |false=>exact⟨false,rfl,rfl⟩
  |true=>
   have hy:0<=d.y:=by
    simp only[Bool.and_eq_true,decide_eq_true_eq]at h1;omega
   rw[DL,Jx]
   simp only[Option.bind_some,Bool.not_true,cond_false]
   cases h2:(decide (d.m ≥ 0)&&decide (d.m<=12))with
   |false=>exact⟨false,rfl,rfl⟩
   |true=>
    obtain⟨r,r1,r2⟩:=Qb1 d.y d.m hy
    rw[r1,r2]
    simp only[Option.bind_some,Bool.not_true,cond_false,DL,Jx]
    cases d.c with
    |true=>
     by_cases c:d.m=0
     ·exact⟨d.d==0,by simp(disch:=first|assumption|omega) only[cond_true,ceq],by simp(disch:=first|assumption|omega) only[cond_true,ceq,Gm]⟩
     ·exact⟨false,by simp(disch:=first|assumption|omega) only[cond_true,cne],by simp(disch:=first|assumption|omega) only[cond_true,Q1g]⟩
    |false=>exact⟨bif d.m==0 then(d.d==0)else(decide (d.d ≥ 0)&&decide (d.d<=r)),by cases (d.m==0)<;>rfl,by cases (d.m==0)<;>rfl⟩
open Classical in
noncomputable def Q2L (d:Date):Bool:=(Q1s d).choose
theorem Q03 (d:Date):Z82.F d=some (Q2L d):=(Q1s d).choose_spec.1
theorem Q86 (d:Date):Z92.F d=some (Q2L d):=(Q1s d).choose_spec.2
def Q9T (n lo hi:Int):Bool:=decide (n ≥ lo)&&decide (n<=hi)
def Q3t (e:Entry):Bool:=decide (e.cross.size=0)||(Q62 e.cross&& !Qr e.cross e.key)
noncomputable def JE (e:Entry):Bool:=Q62 e.key&&(Q9T e.kind 1 4&&(Y8 e.authors&&(Y8 e.editors&&(Y5 e.title&&(Y5 e.container&&(Y5 e.publisher&&(Y5 e.pages&&(Q2L e.date&&(Q9T e.volume 0 9999&&Q3t e)))))))))
theorem Yx (e:Entry)(hs:Y7 e):Ev (λk=>Z62.F k e) (JE e):=by
 unfold Z62.F JE
 refine Ev.bind (Q1q _) (QI λ_=>?_)
 refine Ev.bind0 (DL _ _ _) (QI λ_=>?_)
 refine Ev.bind (DN _ (Q4D hs)) (QI λ_=>?_)
 refine Ev.bind (DN _ (Q4E hs)) (QI λ_=>?_)
 refine Ev.bind (UB _) (QI λ_=>?_)
 refine Ev.bind (UB _) (QI λ_=>?_)
 refine Ev.bind (UB _) (QI λ_=>?_)
 refine Ev.bind (UB _) (QI λ_=>?_)
 refine Ev.bind0 (Q03 _) (J6 λ_=>?_)
 refine Ev.bind0 (DL _ _ _) (J6 λ_=>?_)
 unfold Q3t
 rw[Xd]
 cases decide (e.cross.size=0)with
 |true=>exact Ev.pure _
 |false=>
  refine(Ev.bind (Q1q _) (J6 λ_=>?_)).eq (Bool.false_or _).symm
  exact Ev.pure _
theorem YI (e:Entry)(hs:Y7 e):Ev (λk=>Z59.F k e) (JE e):=by
 have key:Ev (λk=>Z59.F k e) (Q62 e.key&&(Q9T e.kind 1 4&&(Y8 e.authors&&(Y8 e.editors&&(Q2L e.date&&(Q9T e.volume 0 9999&&(Y5 e.title&&(Y5 e.container&&(Y5 e.publisher&&(Y5 e.pages&&Q3t e)))))))))):=by
  unfold Z59.F
  refine Ev.bind (Q4F _) (QI λ_=>?_)
  refine Ev.bind0 (a:=Q9T e.kind 1 4) ?_ (QI λ_=>?_)
  ·unfold Z115.F;rw[Jx];rfl
  refine Ev.bind (Q02 _ (Q4D hs)) (QI λ_=>?_)
  refine Ev.bind (Q02 _ (Q4E hs)) (QI λ_=>?_)
  refine Ev.bind0 (Q86 _) (QI λ_=>?_)
  refine Ev.bind0 (Jx _ _ _) (QI λ_=>?_)
  refine Ev.bind (Ua _) (J6 λ_=>?_)
  refine Ev.bind (Ua _) (J6 λ_=>?_)
  refine Ev.bind (Ua _) (J6 λ_=>?_)
  refine Ev.bind (Ua _) (J6 λ_=>?_)
  unfold Q3t
  rw[Xd]
  cases decide (e.cross.size=0)with
  |true=>exact Ev.pure _
  |false=>
   refine(Ev.bind (Q4F _) (J6 λ_=>?_)).eq (Bool.false_or _).symm
   exact Ev.pure _
 refine key.eq ?_
 unfold JE
 ac_rfl
noncomputable def okL (l:Library)(i:Nat):Bool:=JE (l.entries.getD i (Q4 .entry))&&(decide (i=0)||ltS (l.entries.getD (i-1) (Q4 .entry)).key (l.entries.getD i (Q4 .entry)).key)
noncomputable def U5 (l:Library):Bool:=(List.range' 0 l.entries.length).all (okL l)&&decide (l.entries.length<=8)
theorem Q3u (l:Library)(hs:JZ l):Ev (λk=>Z9.l0 k l ((0:Nat):Int)) (if(List.range' 0 l.entries.length).all (okL l)=true then .inr ()else .inl false):=by
 have hlen:=Da hs
 refine Jn (f:=λk i=>Z9.l0 k l i) (n:=l.entries.length) (λi hi hp=>?_) (λi r hi hp ih=>?_) ?_ l.entries.length 0 (by omega)
 ·unfold okL at hp
  refine Ev.step (λk=>by rw[Z9.l0]) ?_
  have hsm:Y7 (l.entries.getD i (Q4 .entry)):=by rw[getD_at hi];exact Ub hs (List.getElem_mem hi)
  simp(disch:=omega) only[Qa,Int.toNat_natCast]
  refine Ev.bind (Yx _ hsm) ?_
  cases he:JE (l.entries.getD i (Q4 .entry))with
  |false=>exact Ev.pure _
  |true=>
   rw[he,Bool.true_and,Bool.or_eq_false_iff,decide_eq_false_iff_not]at hp
   have et:((i:Int)-1).toNat=i-1:=by omega
   simp(disch:=omega) only[Bool.not_true,cond_false,Qa,wrap_in,et,hp.2,Bool.not_false,cond_true]
   exact Ev.pure _
 ·unfold okL at hp
  rw[Bool.and_eq_true]at hp
  refine Ev.step (λk=>by rw[Z9.l0]) ?_
  have hsm:Y7 (l.entries.getD i (Q4 .entry)):=by rw[getD_at hi];exact Ub hs (List.getElem_mem hi)
  simp(disch:=omega) only[Qa,Int.toNat_natCast]
  refine Ev.bind (Yx _ hsm) ?_
  rw[hp.1]
  by_cases c:i=0
  ·simp(disch:=omega) only[Bool.not_true,cond_false,Qk,wrap_in]
   exact ih
  ·have et:((i:Int)-1).toNat=i-1:=by omega
   have h2:=hp.2
   rw[decide_eq_false c,Bool.false_or]at h2
   simp(disch:=omega) only[Bool.not_true,cond_false,Qa,wrap_in,et,h2]
   exact ih
 ·refine Ev.step (λk=>by rw[Z9.l0]) ?_
  simp(disch:=omega) only[Qk]
  exact Ev.pure _
theorem Q9U (l:Library)(hs:JZ l):Ev (λk=>Z14.l0 k l l.entries l.entries.length ((0:Nat):Int)) (if(List.range' 0 l.entries.length).all (okL l)=true then .inr l else .inl false):=by
 have hlen:=Da hs
 refine Jn (f:=λk i=>Z14.l0 k l l.entries l.entries.length i) (n:=l.entries.length) (λi hi hp=>?_) (λi r hi hp ih=>?_) ?_ l.entries.length 0 (by omega)
 ·unfold okL at hp
  refine Ev.step (λk=>by rw[Z14.l0]) ?_
  have hsm:Y7 (l.entries.getD i (Q4 .entry)):=by rw[getD_at hi];exact Ub hs (List.getElem_mem hi)
  simp(disch:=omega) only[Qa,Int.toNat_natCast]
  refine Ev.bind (YI _ hsm) ?_
  cases he:JE (l.entries.getD i (Q4 .entry))with
  |false=>exact Ev.pure _
  |true=>
   rw[he,Bool.true_and,Bool.or_eq_false_iff,decide_eq_false_iff_not]at hp
   have et:((i:Int)-1).toNat=i-1:=by omega
   simp(disch:=omega) only[Bool.not_true,cond_false,Qa,wrap_in,et,hp.2,Bool.not_false,cond_true]
   exact Ev.pure _
 ·unfold okL at hp
  rw[Bool.and_eq_true]at hp
  refine Ev.step (λk=>by rw[Z14.l0]) ?_
  have hsm:Y7 (l.entries.getD i (Q4 .entry)):=by rw[getD_at hi];exact Ub hs (List.getElem_mem hi)
  simp(disch:=omega) only[Qa,Int.toNat_natCast]
  refine Ev.bind (YI _ hsm) ?_
  rw[hp.1]
  by_cases c:i=0
  ·simp(disch:=omega) only[Bool.not_true,cond_false,Qk,wrap_in]
   exact ih
  ·have et:((i:Int)-1).toNat=i-1:=by omega
   have h2:=hp.2
   rw[decide_eq_false c,Bool.false_or]at h2
   simp(disch:=omega) only[Bool.not_true,cond_false,Qa,wrap_in,et,h2]
   exact ih
 ·refine Ev.step (λk=>by rw[Z14.l0]) ?_
  simp(disch:=omega) only[Qk]
  exact Ev.pure _
theorem YJ (l:Library)(hs:JZ l):Ev (λk=>Z9.F k l) (U5 l):=by
 unfold Z9.F U5
 by_cases c:l.entries.length<=8
 ·simp(disch:=omega) only[Qk,Q1h,Bool.and_true]
  have:=Q3u l hs
  cases ha:(List.range' 0 l.entries.length).all (okL l)with
  |true=>rw[ha]at this;exact Ev.bind this (Ev.pure _)
  |false=>rw[ha]at this;exact Ev.bind this (Ev.pure _)
 ·simp(disch:=omega) only[Qa,Q0c,Bool.and_false]
  exact Ev.pure _
theorem Q1t (l:Library)(hs:JZ l):Ev (λk=>Z14.F k l) (U5 l):=by
 unfold Z14.F U5
 have:=Q9U l hs
 cases ha:(List.range' 0 l.entries.length).all (okL l)with
 |true=>
  rw[ha]at this
  refine Ev.bind this ((Ev.pure _).eq ?_)
  rw[Bool.true_and];exact decide_eq_decide.2 (by omega)
 |false=>rw[ha]at this;exact Ev.bind this (Ev.pure _)
theorem Um {l:Library}(h:U5 l=true):l.entries.length<=8:=by
 unfold U5 at h
 rw[Bool.and_eq_true,decide_eq_true_eq]at h
 exact h.2
end Go.Proofs.YtoojiikgbopeiaaGreatDoor
end
section
/- Plain laws: lower case. -/
namespace Go.Proofs.YtoojiikgbopeiaaGreatDoor
open Go.Gx
theorem YK (ys:List Int):L (QY ys)=ys.map λn=>UInt8.ofNat n.toNat:=Q5W _
theorem JO (ys:List Int):(QY ys).size=ys.length:=by
 rw[<-Jh,YK,List.length_map]
def KL (b:Int):Bool:=(decide (65<=b)&&decide (b<=90))||(decide (97<=b)&&decide (b<=122))
theorem KU (b:Int):Z77.F b=some (KL b):=by
 unfold Z77.F KL
 simp only[ge_iff_le]
 cases decide (65<=b)<;>cases decide (b<=90)<;>cases decide (97<=b)<;>cases decide (b<=122)<;>rfl
theorem Q65 (b:Int):Z64.F b=some (decide (65<=b)&&decide (b<=90)):=by
 unfold Z64.F
 simp only[ge_iff_le]
 cases decide (65<=b)<;>rfl
def Jy (b:Int):Int:=bif decide (65<=b)&&decide (b<=90)then b+32 else b
theorem Xe (b:Int):Z73.F b=some (Jy b):=by
 unfold Z73.F Jy
 simp only[ge_iff_le]
 by_cases h1:65<=b
 ·by_cases h2:b<=90
  ·have:IntKind.wrap .u8 (b+32)=b+32:=by rw[IntKind.wrap_u8];omega
   simp only[Q1h h1,Q1h h2,cond_true,Bool.and_self,this]
  ·simp only[Q1h h1,Q0c h2,cond_true,cond_false,Bool.and_false]
 ·simp only[Q0c h1,cond_false,Bool.false_and]
def mix (s:ByteArray)(i:Nat):List Int:=((Q2 s).take i).map Jy++(Q2 s).drop i
theorem Q3v (s:ByteArray)(i:Nat):(mix s i).length=(Q2 s).length:=by
 unfold mix;simp;omega
theorem Q9V (s:ByteArray)(i:Nat)(h:i<(Q2 s).length):(mix s i).getD i 0=(Q2 s)[i]:=by
 unfold mix
 rw[List.getD_eq_getElem?_getD,List.getElem?_append_right (by simp;omega)]
 simp[Nat.min_eq_left (Nat.le_of_lt h),h]
theorem Q6T (s:ByteArray)(i:Nat)(h:i<(Q2 s).length):(mix s i).set i (Jy (Q2 s)[i])=mix s (i+1):=by
 unfold mix
 rw[List.set_append_right _ _ (by simp;omega)]
 simp only[List.length_map,List.length_take,Nat.min_eq_left (Nat.le_of_lt h),Nat.sub_self]
 rw[List.drop_eq_getElem_cons h,List.set_cons_zero,List.take_add_one,List.getElem?_eq_getElem h]
 simp only[Option.toList_some,List.map_append,List.map_cons,List.map_nil,List.append_assoc,List.cons_append,List.nil_append]
theorem Q9W (s:ByteArray)(i:Nat)(h:i<(Q2 s).length)(e:Jy (Q2 s)[i]=(Q2 s)[i]):mix s (i+1)=mix s i:=by
 rw[<-Q6T s i h,e]
 apply List.ext_getElem?
 intro j
 by_cases hj:i=j
 ·subst hj
  have:=Q9V s i h
  rw[List.getD_eq_getElem?_getD]at this
  rw[List.getElem?_set_self (by rw[Q3v];exact h)]
  rw[List.getElem?_eq_getElem (by rw[Q3v];exact h)]at this ⊢
  rw[<-this];rfl
 ·rw[List.getElem?_set_ne hj]
theorem Q4J (s:ByteArray)(hs:s.size<=1048576):∀n i:Nat,i+n=s.size->Ev (λk=>Z30.l0 k (mix s i) s.size i) ((Q2 s).map Jy)
 |0,i,h=>by
  refine Ev.step (λk=>by rw[Z30.l0]) ?_
  simp(disch:=omega) only[Qk]
  unfold mix
  rw[List.take_of_length_le (by rw[Qq];omega),List.drop_eq_nil_of_le (by rw[Qq];omega),List.append_nil]
  exact Ev.pure _
 |n+1,i,h=>by
  have hl:=Qq s
  have hi:i<(Q2 s).length:=by omega
  have hm:=Q3v s i
  have ih:=Q4J s hs n (i+1) (by omega)
  have hb:=XW s i hi
  refine Ev.step (λk=>by rw[Z30.l0]) ?_
  simp(disch:=omega) only[Qa,Int.toNat_natCast,Q9V s i hi]
  refine Ev.bind0 (Q65 _) ?_
  cases hu:decide (65<=(Q2 s)[i])&&decide ((Q2 s)[i]<=90)with
  |true=>
   have hu':=hu
   simp only[Bool.and_eq_true,decide_eq_true_eq]at hu'
   have e:IntKind.wrap .u8 (IntKind.wrap .u8 ((Q2 s)[i]+97)-65)=Jy (Q2 s)[i]:=by
    unfold Jy
    rw[hu,cond_true,IntKind.wrap_u8,IntKind.wrap_u8];omega
   simp(disch:=omega) only[cond_true,Qa,e,Q6T s i hi,wrap_in]
   exact ih
  |false=>
   have e:Jy (Q2 s)[i]=(Q2 s)[i]:=by unfold Jy;rw[hu,cond_false]
   rw[Q9W s i hi e]at ih
   simp(disch:=omega) only[cond_false,wrap_in]
   exact ih
def KN (s:ByteArray):ByteArray:=QY ((Q2 s).map Jy)
theorem Gv (s:ByteArray):(KN s).size=s.size:=by unfold KN;rw[JO,List.length_map,Qq]
theorem Q4K (s:ByteArray)(hs:s.size<=1048576):Ev (λk=>Z30.F k s) (KN s):=by
 unfold Z30.F
 rw[Qq]
 simp(disch:=omega) only[Xa]
 have:=Q4J s hs s.size 0 (by omega)
 unfold mix at this
 rw[List.take_zero,List.map_nil,List.nil_append,List.drop_zero]at this
 exact Ev.bind this (Ev.pure _)
end Go.Proofs.YtoojiikgbopeiaaGreatDoor
end
section
/- Plain laws: the words of a text;words put together. -/
namespace Go.Proofs.YtoojiikgbopeiaaGreatDoor
open Go.Gx
def kw (s:ByteArray):List ByteArray:=(words s).filter pos
theorem Q9X:(λx:ByteArray=> !Qr x ⟨#[]⟩)=pos:=by
 funext x
 rw[Q1k];rfl
theorem Q66 (s:ByteArray)(hs:s.size<=1048576):Ev (λk=>Z103.F k s) (kw s):=by
 unfold Z103.F
 refine Ev.bind0 (Q4C s hs) (Ev.bind (a:=kw s) ?_ (Ev.pure _))
 have hlen:=(KE s).2
 have hq:∀x,x∈words s->Ev (λk=>(λ(_:Nat) (x:ByteArray)=>Z76.F x) k x) (Qr x ⟨#[]⟩):=λx _=>Ev.const rfl
 have:=Q81 (d:=(⟨#[]⟩:ByteArray)) (p:=λx=>Qr x ⟨#[]⟩) (q:=λ_ x=>Z76.F x) (xs:=words s) (l0:=Z53.l0) (λk x0 x5 x6=>by rw[Z53.l0]) hq (by omega) (I:=Z50.F) (F:=Z53.F)
  (Q60 (d:=(⟨#[]⟩:ByteArray)) (p:=λx=>Qr x ⟨#[]⟩) (q:=λ_ x=>Z76.F x) (l0:=Z50.l0) (λk x0 x7 x8=>by rw[Z50.l0]) hq (by omega) (λk a0=>rfl)) (λk a0=>rfl)
 rw[Q9X]at this
 exact this
theorem Q9Y (s:ByteArray):∀x∈kw s,0<x.size/\x.size<=s.size:=λx hx=>by
 obtain⟨h1,h2⟩:=List.mem_filter.1 hx
 exact⟨by simpa[pos]using h2,UA _ _ x h1⟩
theorem Qc0 (s:ByteArray):(kw s).length<=s.size+1:=Nat.le_trans (List.length_filter_le _ _) (KE s).2
theorem Q6U (W:List ByteArray)(hW:∀x∈W,x.size<=1048576)(hl:W.length<=8192):∀n i:Nat,i+n=W.length->1<=i->∀acc:ByteArray,acc.size<=1048577*i->
  ∃r,Ev (λk=>Z29.l0 k W acc i) r/\L r=L acc++Lib.joinTail [32] ((W.drop i).map L)/\r.size<=1048577*W.length
 |0,i,h,h0,acc,ha=>by
  refine⟨acc,Ev.step (λk=>by rw[Z29.l0]) ?_,?_,by rw[show W.length=i by omega];exact ha⟩
  ·simp(disch:=omega) only[Qk];exact Ev.pure _
  ·rw[List.drop_eq_nil_of_le (by omega)];simp[Lib.joinTail]
 |n+1,i,h,h0,acc,ha=>by
  have hi:i<W.length:=by omega
  have hx:=hW _ (List.getElem_mem hi)
  obtain⟨r,r1,r2,r3⟩:=Q6U W hW hl n (i+1) (by omega) (by omega) (acc++⟨#[32]⟩++W[i]) (by rw[Jo,Jo,e32];omega)
  refine⟨r,Ev.step (λk=>by rw[Z29.l0]) ?_,?_,r3⟩
  ·simp(disch:=(try simp only[Jo,e32]);omega) only[Qa,Int.toNat_natCast,getD_at hi,Xa,wrap_in]
   exact r1
  ·rw[r2,List.drop_eq_getElem_cons hi,List.map_cons,Q7Z,QR,QR,L32]
   simp
theorem Qb2 (W:List ByteArray)(hW:∀x∈W,x.size<=1048576)(hl:W.length<=8192):∃r,Ev (λk=>Z29.F k W) r/\Z126.F W ⟨#[32]⟩=some r/\L r=Lib.join (W.map L) [32]/\r.size<=1048577*W.length:=by
 have key:∃r,Ev (λk=>Z29.F k W) r/\L r=Lib.join (W.map L) [32]/\r.size<=1048577*W.length:=by
  unfold Z29.F
  match W,hW,hl with
  |[],_,_=>
   refine⟨⟨#[]⟩,Ev.bind (a:=⟨#[]⟩) ?_ (Ev.pure _),rfl,Nat.zero_le _⟩
   refine Ev.step (λk=>by rw[Z29.l0]) ?_
   exact Ev.pure _
  |x::W,hW,hl=>
   have hx:=hW x List.mem_cons_self
   have e00:∀t:ByteArray,(⟨#[]⟩:ByteArray)++t=t:=λt=>YS (by rw[QR];rfl)
   have e0:(⟨#[]⟩:ByteArray).size=0:=rfl
   obtain⟨r,r1,r2,r3⟩:=Q6U (x::W) hW hl W.length 1 (by rw[List.length_cons];omega) (Nat.le_refl _) x (by omega)
   refine⟨r,Ev.bind (a:=r) ?_ (Ev.pure _),?_,r3⟩
   ·refine Ev.step (λk=>by rw[Z29.l0]) ?_
    have r1':Ev (λk=>Z29.l0 k (x::W) x (0+1)) r:=r1
    have hlen:(0:Int)<((x::W).length:Int):=by rw[List.length_cons];omega
    have hg:(x::W).getD (0:Int).toNat (⟨#[]⟩:ByteArray)=x:=rfl
    simp(disch:=(try simp only[e0]);omega) only[Qa,Qk,hg,e00,Xa,wrap_in]
    exact r1'
   ·rw[r2,List.map_cons,Lib.join_cons];rfl
 obtain⟨r,r1,r2,r3⟩:=key
 refine⟨r,r1,?_,r2,r3⟩
 unfold Z126.F Q6O
 have e1:Lib.join (W.map (·.data.toList)) (⟨#[32]⟩:ByteArray).data.toList=L r:=by rw[r2];rfl
 rw[e1,Nat.ble_eq_true_of_le (by omega),Nat.ble_eq_true_of_le (by rw[Jh];omega)]
 show some _=some r
 congr 1
end Go.Proofs.YtoojiikgbopeiaaGreatDoor
end
section
/- Plain laws: the plain form of a text,two ways. -/
namespace Go.Proofs.YtoojiikgbopeiaaGreatDoor
open Go.Gx
def Q1W (cur:List Int):List (List Int):=if cur=[]then[]else[cur]
def grp:List Int->List Int->List (List Int)
 |cur,[]=>Q1W cur
 |cur,b::l=>if b=32 then Q1W cur++grp [] l else grp (cur++[b]) l
def kpI (b:Int):Bool:=KL b||(decide (48<=b)&&decide (b<=57))
def spW:List Int->List Int->List (List Int)
 |cur,[]=>Q1W cur
 |cur,b::l=>if b=32 then Q1W cur++spW [] l else if kpI b=true then spW (cur++[Jy b]) l else spW cur l
def kpL (b:Int):Bool:=(decide (97<=b)&&decide (b<=122))||((decide (48<=b)&&decide (b<=57))||(b==32))
theorem Qb3 (b:Int):kpL (Jy b)=(kpI b||(b==32)):=by
 rw[Bool.eq_iff_iff]
 unfold kpL kpI KL Jy
 cases h:decide (65<=b)&&decide (b<=90)with
 |true=>
  simp only[Bool.and_eq_true,decide_eq_true_eq]at h
  simp only[cond_true,Bool.true_or,Bool.or_eq_true,Bool.and_eq_true,decide_eq_true_eq,beq_iff_eq,true_or,iff_true]
  omega
 |false=>
  simp only[cond_false,Bool.false_or,Bool.or_eq_true,Bool.and_eq_true,decide_eq_true_eq,beq_iff_eq,or_assoc]
theorem Qb4 (b:Int):Jy b=32 ↔ b=32:=by
 unfold Jy
 cases h:decide (65<=b)&&decide (b<=90)with
 |true=>
  simp only[Bool.and_eq_true,decide_eq_true_eq]at h
  simp only[cond_true]
  omega
 |false=>simp only[cond_false]
theorem Q0p:∀(l cur:List Int),grp cur ((l.map Jy).filter kpL)=spW cur l
 |[],cur=>rfl
 |b::l,cur=>by
  rw[List.map_cons,List.filter_cons,Qb3]
  unfold spW
  by_cases h:b=32
  ·subst h
   rw[if_pos rfl]
   have e:(kpI 32||((32:Int)==32))=true:=by decide
   rw[if_pos e]
   have e2:Jy 32=32:=by decide
   rw[e2]
   unfold grp
   rw[if_pos rfl,Q0p l []]
  ·rw[if_neg h]
   have e:(b==32)=false:=by simpa using h
   rw[e,Bool.or_false]
   cases hk:kpI b with
   |true=>
    rw[if_pos rfl,if_pos rfl]
    conv=>lhs;unfold grp
    rw[if_neg (λe=>h ((Qb4 b).1 e)),Q0p l _]
   |false=>
    rw[if_neg (by decide),if_neg (by decide)]
    exact Q0p l cur
theorem Q9Z (s:ByteArray)(st i:Nat):QY (((Q2 s).take i).drop st)=s.extract st i:=by
 apply YS
 rw[YK,QW,YH,List.map_drop,List.map_take,List.map_map]
 have:((λn:Int=>UInt8.ofNat n.toNat)∘λb:UInt8=>(b.toNat:Int))=id:=by
  funext b;simp
 rw[this,List.map_id]
theorem Q4L (s:ByteArray)(st i:Nat)(h:st<=i)(hi:i<=s.size):(if st<i then[s.extract st i]else[])=(Q1W (((Q2 s).take i).drop st)).map QY:=by
 have hl:=Qq s
 unfold Q1W
 by_cases c:st<i
 ·have hne:¬((Q2 s).take i).drop st=[]:=λe=>by
   have:=congrArg List.length e
   simp at this
   omega
  rw[if_pos c,if_neg hne,List.map_cons,List.map_nil,Q9Z]
 ·have he:((Q2 s).take i).drop st=[]:=List.drop_eq_nil_of_le (by simp;omega)
  rw[if_neg c,if_pos he];rfl
theorem Q1u (s:ByteArray):∀n i:Nat,i+n=s.size->∀st:Nat,st<=i->(∀j,st<=j->j<i->(L s)[j]? ≠some 32)->(Y4 s st).filter pos=(grp (((Q2 s).take i).drop st) ((Q2 s).drop i)).map QY
 |0,i,h,st,h1,hn=>by
  have hl:=Qq s
  rw[Q2G s st λj hj=>by
   by_cases hj2:j<i
   ·exact hn j hj hj2
   ·rw[List.getElem?_eq_none (by rw[Jh];omega)];exact λh=>by cases h]
  have e0:(Q2 s).drop s.size=[]:=List.drop_eq_nil_of_le (by omega)
  rw[Q4B s st s.size (by omega) (Nat.le_refl _),List.filter_nil,List.append_nil,show i=s.size by omega,e0]
  exact Q4L s st s.size (by omega) (Nat.le_refl _)
 |n+1,i,h,st,h1,hn=>by
  have hl:=Qq s
  have hi:i<s.size:=by omega
  have hib:i<(Q2 s).length:=by omega
  rw[List.drop_eq_getElem_cons hib]
  unfold grp
  have hbt:(Q2 s)[i]=bt s i:=(YU s i hib).symm
  by_cases c:bt s i=32
  ·have e1:(Q2 s)[i]=32:=hbt.trans c
   rw[Q2H s st i h1 hi ((Q6Q hi).1 c) hn,Q4B s st i h1 (by omega),if_pos e1,List.map_append,Q4L s st i h1 (by omega)]
   congr 1
   have:=Q1u s n (i+1) (by omega) (i+1) (Nat.le_refl _) (λj h1 h2=>by omega)
   have e2:((Q2 s).take (i+1)).drop (i+1)=[]:=List.drop_eq_nil_of_le (by simp;omega)
   rw[this,e2]
  ·rw[if_neg (by rw[hbt];exact c)]
   have:=Q1u s n (i+1) (by omega) st (by omega) (λj h3 h4=>by
    rcases Nat.lt_or_ge j i with h5|h5
    ·exact hn j h3 h5
    ·obtain rfl:j=i:=by omega
     exact λe=>c ((Q6Q hi).2 e))
   rw[this,List.take_add_one,List.getElem?_eq_getElem hib,List.drop_append_of_le_length (by simp;omega)]
   rfl
theorem Qc1 (s:ByteArray):kw s=(grp [] (Q2 s)).map QY:=by
 have:=Q1u s s.size 0 (by omega) 0 (Nat.le_refl _) (λj h1 h2=>by omega)
 rw[Q1l]at this
 simpa[kw]using this
theorem Q2M (ys:List Int)(h:∀y∈ys,0<=y/\y<=255):Q2 (QY ys)=ys:=by
 rw[YH,YK,List.map_map]
 conv=>rhs;rw[<-List.map_id ys]
 refine List.map_congr_left λy hy=>?_
 have:=h y hy
 simp only[Function.comp,id]
 rw[UInt8.toNat_ofNat_of_lt' (show y.toNat<UInt8.size by have:UInt8.size=256:=rfl;omega)]
 omega
theorem Q1v {b:Int}(h:0<=b/\b<=255):0<=Jy b/\Jy b<=255:=by
 unfold Jy
 cases h2:decide (65<=b)&&decide (b<=90)with
 |true=>
  simp only[Bool.and_eq_true,decide_eq_true_eq]at h2
  simp only[cond_true];omega
 |false=>simp only[cond_false];exact h
theorem Q2N {s:ByteArray}{b:Int}(h:b∈Q2 s):0<=b/\b<=255:=by
 obtain⟨i,hi,rfl⟩:=List.getElem_of_mem h
 exact XW s i hi
def plT (s:ByteArray):ByteArray:=QY (((Q2 s).map Jy).filter kpL)
theorem Q87 (s:ByteArray):kw (plT s)=(spW [] (Q2 s)).map QY:=by
 rw[Qc1,<-Q0p]
 unfold plT
 rw[Q2M]
 intro y hy
 obtain⟨b,hb,rfl⟩:=List.mem_map.1 (List.mem_filter.1 hy).1
 exact Q1v (Q2N hb)
theorem Qa0 (s:ByteArray):(plT s).size<=s.size:=by
 unfold plT
 rw[JO]
 refine Nat.le_trans (List.length_filter_le _ _) ?_
 rw[List.length_map,Qq]
 exact Nat.le_refl _
end Go.Proofs.YtoojiikgbopeiaaGreatDoor
end
section
/- Edit distances: symmetric,zero from a text to itself,and no shorter by a way round. -/
namespace Go.Proofs.YtoojiikgbopeiaaGreatDoor
open Go.Gx
def lv (a b:Nat->Int):Nat->Nat->Nat
 |0,j=>j
 |i+1,0=>i+1
 |i+1,j+1=>min (min (lv a b i (j+1)) (lv a b (i+1) j)+1) (lv a b i j+if a i=b j then 0 else 1)
termination_by i j=>i+j
theorem Qc2 (a b:Nat->Int)(j:Nat):lv a b 0 j=j:=by rw[lv]
theorem Qa1 (a b:Nat->Int)(i:Nat):lv a b i 0=i:=by cases i<;>rw[lv]
theorem Qa2 (a b:Nat->Int)(i j:Nat):lv a b (i+1) (j+1)=min (min (lv a b i (j+1)) (lv a b (i+1) j)+1) (lv a b i j+if a i=b j then 0 else 1):=by rw[lv]
theorem Q0q (a b:Nat->Int):∀s i j:Nat,i+j<=s->lv a b i j=lv b a j i
 |s,0,j,_=>by rw[Qc2,Qa1]
 |s,i+1,0,_=>by rw[Qc2,Qa1]
 |0,i+1,j+1,h=>by omega
 |s+1,i+1,j+1,h=>by
  rw[Qa2,Qa2,Q0q a b s i (j+1) (by omega),Q0q a b s (i+1) j (by omega),Q0q a b s i j (by omega)]
  have e:(if a i=b j then 0 else 1)=(if b j=a i then 0 else(1:Nat)):=by
   by_cases c:a i=b j
   ·rw[if_pos c,if_pos c.symm]
   ·rw[if_neg c,if_neg λh=>c h.symm]
  rw[e,Nat.min_comm (lv b a (j+1) i)]
end Go.Proofs.YtoojiikgbopeiaaGreatDoor
end
section
/- Plain laws: the distance of two texts,two ways. -/
namespace Go.Proofs.YtoojiikgbopeiaaGreatDoor
open Go.Gx
theorem Qc3 (b:Int):Z58.F b=some (decide (97<=b)&&decide (b<=122)):=by
 unfold Z58.F
 simp only[ge_iff_le]
 cases decide (97<=b)<;>rfl
theorem Qc4 (b:Int):Z74.F b=some (decide (48<=b)&&decide (b<=57)):=by
 unfold Z74.F
 simp only[ge_iff_le]
 cases decide (48<=b)<;>rfl
theorem Qc5 (b:Int):Z98.F b=some (decide (48<=b)&&decide (b<=57)):=by
 unfold Z98.F
 simp only[ge_iff_le]
 cases decide (48<=b)<;>rfl
theorem Qcw {n:Nat}(h:n<=8388608):room n .str=true:=by
 unfold room
 rw[Nat.ble_eq]
 have:nb .str=16:=rfl
 rw[this];omega
theorem Qbw {n:Nat}(h:n<=8388608):room n (.int .u8)=true:=by
 unfold room
 rw[Nat.ble_eq]
 have:nb (.int .u8)=1:=rfl
 rw[this];omega
theorem Qa3 {n:Nat}(h:n<=1000000000):room n (.int .i64)=true:=by
 unfold room
 rw[Nat.ble_eq]
 have:nb (.int .i64)=8:=rfl
 rw[this];omega
theorem Q1w (s:ByteArray)(acc:List ByteArray)(cur:List Int)(i:Int)(h0:0<=i)(h1:i<=1048576)(ha:acc.length<=1048576){r:List ByteArray}(ih:Ev (λk=>Z15.l0 k s (acc++(Q1W cur).map QY) [] (i+1)) r) :
  Ev (λk=>bif (decide ((cur.length:Int) > 0))then(bif room (acc.length+([(QY cur)]:List ByteArray).length) .str then(Z15.l0 k s (acc++([(QY cur)]:List ByteArray)) ([]:List Int) (IntKind.wrap .i64 (i+1)))else none)else(Z15.l0 k s acc ([]:List Int) (IntKind.wrap .i64 (i+1)))) r:=by
 by_cases c:cur=[]
 ·subst c
  have:¬(([]:List Int).length:Int) > 0:=by simp
  simp(disch:=first|exact this|omega) only[Qk,wrap_in]
  unfold Q1W at ih
  rw[if_pos rfl,List.map_nil,List.append_nil]at ih
  exact ih
 ·have:(cur.length:Int) > 0:=by
   have:=List.length_pos_iff.2 c
   omega
  have hr:room (acc.length+([QY cur]:List ByteArray).length) .str=true:=Qcw (by simp;omega)
  simp(disch:=first|exact this|omega) only[Qa,hr,cond_true,wrap_in]
  unfold Q1W at ih
  rw[if_neg c]at ih
  exact ih
theorem KH (s:ByteArray)(hs:s.size<=1048575):∀n i:Nat,i+n=s.size->∀(acc:List ByteArray) (cur:List Int),acc.length<=i->cur.length<=i->Ev (λk=>Z15.l0 k s acc cur i) (acc++(spW cur ((Q2 s).drop i)).map QY)
 |0,i,h,acc,cur,ha,hc=>by
  have hl:=Qq s
  have e0:(Q2 s).drop i=[]:=List.drop_eq_nil_of_le (by omega)
  refine Ev.step (λk=>by rw[Z15.l0]) ?_
  rw[e0]
  simp(disch:=omega) only[Qa,ceq]
  refine Q1w s acc cur i (by omega) (by omega) (by omega) ?_
  refine Ev.step (λk=>by rw[Z15.l0]) ?_
  simp(disch:=omega) only[Qk]
  exact Ev.pure _
 |n+1,i,h,acc,cur,ha,hc=>by
  have hl:=Qq s
  have hi:i<(Q2 s).length:=by omega
  refine Ev.step (λk=>by rw[Z15.l0]) ?_
  rw[List.drop_eq_getElem_cons hi]
  simp(disch:=omega) only[Qa,cne,Int.toNat_natCast,YU s i hi]
  by_cases c:(Q2 s)[i]=32
  ·simp(disch:=first|exact c|omega) only[ceq]
   unfold spW
   rw[if_pos c,List.map_append,<-List.append_assoc]
   refine Q1w s acc cur i (by omega) (by omega) (by omega) ?_
   exact KH s hs n (i+1) (by omega) _ [] (by unfold Q1W;split<;>simp<;>omega) (by simp)
  ·simp(disch:=first|exact c|omega) only[cne]
   conv=>rhs;unfold spW
   rw[if_neg c]
   refine Ev.bind0 (KU _) ?_
   have put:kpI (Q2 s)[i]=true->Ev (λk=>(Z73.F (Q2 s)[i]).bind λr2=>bif room (cur.length+([r2]:List Int).length) (.int .u8)then(Z15.l0 k s acc (cur++([r2]:List Int)) (IntKind.wrap .i64 ((i:Int)+1)))else none) (acc++(if kpI (Q2 s)[i]=true then spW (cur++[Jy (Q2 s)[i]]) ((Q2 s).drop (i+1))else spW cur ((Q2 s).drop (i+1))).map QY):=λhk=>by
    rw[if_pos hk]
    refine Ev.bind0 (Xe _) ?_
    have hr:room (cur.length+([Jy (Q2 s)[i]]:List Int).length) (.int .u8)=true:=Qbw (by simp;omega)
    simp(disch:=omega) only[hr,cond_true,wrap_in]
    exact KH s hs n (i+1) (by omega) acc _ (by omega) (by simp;omega)
   cases hlt:KL (Q2 s)[i]with
   |true=>
    simp only[cond_true]
    exact put (by unfold kpI;rw[hlt];rfl)
   |false=>
    simp only[cond_false]
    refine Ev.bind0 (Qc5 _) ?_
    cases hd:decide (48<=(Q2 s)[i])&&decide ((Q2 s)[i]<=57)with
    |true=>
     simp only[cond_true]
     exact put (by unfold kpI;rw[hlt,hd];rfl)
    |false=>
     have hk:¬kpI (Q2 s)[i]=true:=by unfold kpI;rw[hlt,hd];decide
     rw[if_neg hk]
     simp(disch:=omega) only[cond_false,wrap_in]
     exact KH s hs n (i+1) (by omega) acc cur (by omega) (by omega)
theorem Q88 (s:ByteArray)(hs:s.size<=1048575):Ev (λk=>Z15.F k s) (kw (plT s)):=by
 unfold Z15.F
 have:=KH s hs s.size 0 (by omega) [] [] (Nat.le_refl _) (Nat.le_refl _)
 rw[List.drop_zero,List.nil_append,<-Q87]at this
 exact Ev.bind this (Ev.pure _)
theorem Qa4 (ys:List Int)(hl:ys.length<=1048576):∀n i:Nat,i+n=ys.length->∀acc:List Int,acc.length<=i->Ev (λk=>Z23.l0 k acc ys ys.length i) (acc++(ys.drop i).filter kpL)
 |0,i,h,acc,ha=>by
  refine Ev.step (λk=>by rw[Z23.l0]) ?_
  simp(disch:=omega) only[Qk]
  rw[List.drop_eq_nil_of_le (by omega),List.filter_nil,List.append_nil]
  exact Ev.pure _
 |n+1,i,h,acc,ha=>by
  have hi:i<ys.length:=by omega
  refine Ev.step (λk=>by rw[Z23.l0]) ?_
  rw[List.drop_eq_getElem_cons hi,List.filter_cons]
  simp(disch:=omega) only[Qa,Int.toNat_natCast,getD_at hi]
  have hr:room (acc.length+([ys[i]]:List Int).length) (.int .u8)=true:=Qbw (by simp;omega)
  have put:Ev (λk=>Z23.l0 k (acc++[ys[i]]) ys ys.length ((i:Int)+1)) (acc++ys[i]::(ys.drop (i+1)).filter kpL):=by
   have:=Qa4 ys hl n (i+1) (by omega) (acc++[ys[i]]) (by simp;omega)
   rw[List.append_assoc]at this
   exact this
  refine Ev.bind0 (Qc3 _) ?_
  cases h1:decide (97<=ys[i])&&decide (ys[i]<=122)with
  |true=>
   have hk:kpL ys[i]=true:=by unfold kpL;rw[h1];rfl
   rw[if_pos hk]
   simp(disch:=omega) only[cond_true,hr,wrap_in]
   exact put
  |false=>
   simp only[cond_false]
   refine Ev.bind0 (Qc4 _) ?_
   cases h2:decide (48<=ys[i])&&decide (ys[i]<=57)with
   |true=>
    have hk:kpL ys[i]=true:=by unfold kpL;rw[h1,h2];rfl
    rw[if_pos hk]
    simp(disch:=omega) only[cond_true,hr,wrap_in]
    exact put
   |false=>
    by_cases c:ys[i]=32
    ·have hk:kpL ys[i]=true:=by unfold kpL;rw[h1,h2,c];rfl
     rw[if_pos hk]
     simp(disch:=first|exact c|omega) only[cond_false,ceq,hr,cond_true,wrap_in]
     exact put
    ·have hk:¬kpL ys[i]=true:=by
      unfold kpL
      rw[h1,h2,show(ys[i]==32)=false by simpa using c];decide
     rw[if_neg hk]
     simp(disch:=first|exact c|omega) only[cond_false,cne,wrap_in]
     exact Qa4 ys hl n (i+1) (by omega) acc (by omega)
theorem Q4M (s:ByteArray)(hs:s.size<=40):∃t,Ev (λk=>Z83.F k s) t/\Ev (λk=>Z23.F k s) t/\t.size<=100000000:=by
 have hw:=Q9Y (plT s)
 have hl:=Qc0 (plT s)
 have hp:=Qa0 s
 obtain⟨t,t1,t2,_,t3⟩:=Qb2 (kw (plT s)) (λx hx=>by have:=(hw x hx).2;omega) (by omega)
 have hlow:=Gv s
 have eb:Q2 (KN s)=(Q2 s).map Jy:=by
  unfold KN
  exact Q2M _ λy hy=>by
   obtain⟨b,hb,rfl⟩:=List.mem_map.1 hy
   exact Q1v (Q2N hb)
 refine⟨t,?_,?_,?_⟩
 ·unfold Z83.F
  exact Ev.bind (Q88 s (by omega)) (Ev.bind t1 (Ev.pure _))
 ·unfold Z23.F
  refine Ev.bind (Q4K s (by omega)) ?_
  simp(disch:=omega) only[Xa]
  have hlen:(Q2 (KN s)).length<=1048576:=by rw[Qq];omega
  have:=Qa4 (Q2 (KN s)) hlen _ 0 (Nat.zero_add _) [] (Nat.le_refl _)
  rw[List.drop_zero,List.nil_append,eb]at this
  rw[eb]
  refine Ev.bind this (Ev.bind (a:=kw (plT s)) (Q66 (plT s) (by omega)) (Ev.bind0 t2 (Ev.pure _)))
 ·refine Nat.le_trans t3 ?_
  have:(kw (plT s)).length<=41:=by omega
  calc 1048577* (kw (plT s)).length<=1048577*41:=Nat.mul_le_mul_left _ this
   _<=100000000:=by decide
def KO (n:Nat):List Int:=(List.range n).map λ(j:Nat)=>(j:Int)
theorem Q1x (n:Nat):(KO n).length=n:=by simp[KO]
theorem Q2O (n:Nat):KO n++[(n:Int)]=KO (n+1):=by
 unfold KO
 rw[List.range_succ,List.map_append];rfl
theorem Q4N {n j:Nat}(h:j<n):(KO n).getD j 0=j:=by
 simp[KO,List.getD,h]
theorem Q6V (a b:ByteArray)(hb:b.size<=100000000):∀m i:Nat,i+m=b.size+1->Ev (λk=>Z4.l0 k a b (KO i) i) (a,b,KO (b.size+1))
 |0,i,h=>by
  refine Ev.step (λk=>by rw[Z4.l0]) ?_
  simp(disch:=omega) only[Qk]
  rw[show i=b.size+1 by omega]
  exact Ev.pure _
 |m+1,i,h=>by
  refine Ev.step (λk=>by rw[Z4.l0]) ?_
  have hr:room ((KO i).length+([(i:Int)]:List Int).length) (.int .i64)=true:=Qa3 (by rw[Q1x];simp;omega)
  simp(disch:=omega) only[Qa,hr,cond_true,wrap_in,Q2O]
  exact Q6V a b hb m (i+1) (by omega)
theorem Q6W (a b:ByteArray)(hb:b.size<=100000000):∀m i:Nat,i+m=b.size+1->Ev (λk=>Z3.l0 k a b (KO i) ((b.size:Int)+1) i) (a,b,KO (b.size+1))
 |0,i,h=>by
  refine Ev.step (λk=>by rw[Z3.l0]) ?_
  simp(disch:=omega) only[Qk]
  rw[show i=b.size+1 by omega]
  exact Ev.pure _
 |m+1,i,h=>by
  refine Ev.step (λk=>by rw[Z3.l0]) ?_
  have hr:room ((KO i).length+([(i:Int)]:List Int).length) (.int .i64)=true:=Qa3 (by rw[Q1x];simp;omega)
  simp(disch:=omega) only[Qa,hr,cond_true,wrap_in,Q2O]
  exact Q6W a b hb m (i+1) (by omega)
theorem DO (a b:Int):Z67.F a b=some (if a<b then a else b):=by
 unfold Z67.F
 by_cases c:a<b
 ·simp(disch:=omega) only[Qa];rw[if_pos c]
 ·simp(disch:=omega) only[Qk];rw[if_neg c]
def Bd (row:List Int)(n:Nat)(c:Int):Prop:=row.length=n/\∀j,j<n->0<=row.getD j 0/\row.getD j 0<=c
theorem Qa5 {row:List Int}{n:Nat}{c x:Int}(h:Bd row n c)(h0:0<=x)(h1:x<=c):Bd (row++[x]) (n+1) c:=by
 refine⟨by simp[h.1],λj hj=>?_⟩
 have hl:=h.1
 by_cases c1:j<n
 ·have e:(row++[x]).getD j 0=row.getD j 0:=by
   rw[List.getD_eq_getElem?_getD,List.getElem?_append_left (by omega),<-List.getD_eq_getElem?_getD]
  rw[e];exact h.2 j c1
 ·have e:(row++[x]).getD j 0=x:=by
   rw[List.getD_eq_getElem?_getD,List.getElem?_append_right (by omega),show j-row.length=0 by omega];rfl
  rw[e];exact⟨h0,h1⟩
def Rv (a b:ByteArray)(row:List Int)(n i:Nat):Prop:=∀j,j<n->row.getD j 0=((lv (bt a) (bt b) i j:Nat):Int)
theorem Qa6 {a b:ByteArray}{row:List Int}{n i:Nat}{x:Int}(hl:row.length=n)(h:Rv a b row n i)(hx:x=((lv (bt a) (bt b) i n:Nat):Int)):Rv a b (row++[x]) (n+1) i:=λj hj=>by
 by_cases c1:j<n
 ·have e:(row++[x]).getD j 0=row.getD j 0:=by
   rw[List.getD_eq_getElem?_getD,List.getElem?_append_left (by omega),<-List.getD_eq_getElem?_getD]
  rw[e];exact h j c1
 ·have e:(row++[x]).getD j 0=x:=by
   rw[List.getD_eq_getElem?_getD,List.getElem?_append_right (by omega),show j-row.length=0 by omega];rfl
  rw[e,hx,show j=n by omega]
theorem Qa7 (a b:ByteArray)(hb:b.size<=100000000)(row:List Int)(c:Int)(hc:0<=c)(hc2:c<=10000000000)(hrow:Bd row (b.size+1) c)(i:Nat)(hi:1<=i)(hi2:i<=a.size)(ha:a.size<=4200000000)(hv:Rv a b row (b.size+1) (i-1)):∀m q:Nat,q+m=b.size+1->1<=q->∀nx:List Int,Bd nx q (c+1)->Rv a b nx q i->
  ∃r,Ev (λk=>Z4.l4 k a b row i nx q) (a,b,(i:Int),r)/\Ev (λk=>Z3.l4 k a b row i nx q) (a,b,(i:Int),r)/\Bd r (b.size+1) (c+1)/\Rv a b r (b.size+1) i
 |0,q,h,h1,nx,hn,hnv=>by
  refine⟨nx,Ev.step (λk=>by rw[Z4.l4]) ?_,Ev.step (λk=>by rw[Z3.l4]) ?_,by rw[<-h];exact hn,by rw[<-h];exact hnv⟩
  ·simp(disch:=omega) only[Qk];exact Ev.pure _
  ·simp(disch:=omega) only[Qk];exact Ev.pure _
 |m+1,q,h,h1,nx,hn,hnv=>by
  have v1:=hv q (by omega)
  have v2:=hv (q-1) (by omega)
  have v3:=hnv (q-1) (by omega)
  have v4:=Qa2 (bt a) (bt b) (i-1) (q-1)
  rw[show i-1+1=i by omega,show q-1+1=q by omega]at v4
  have hrl:=hrow.1
  have hnl:=hn.1
  obtain⟨p1,p2⟩:=hrow.2 q (by omega)
  obtain⟨r1,r2⟩:=hrow.2 (q-1) (by omega)
  obtain⟨n1,n2⟩:=hn.2 (q-1) (by omega)
  have eq1:((q:Int)-1).toNat=q-1:=by omega
  have ei1:((i:Int)-1).toNat=i-1:=by omega
  have hr:∀x:Int,room (nx.length+([x]:List Int).length) (.int .i64)=true:=λx=>Qa3 (by simp;omega)
  by_cases cb:bt a (i-1)=bt b (q-1)
  ·obtain⟨x,x1,x2,x3,x4,x5⟩:∃x:Int,(if(if row.getD q 0<nx.getD (q-1) 0 then row.getD q 0 else nx.getD (q-1) 0)+1<row.getD (q-1) 0 then(if row.getD q 0<nx.getD (q-1) 0 then row.getD q 0 else nx.getD (q-1) 0)+1 else row.getD (q-1) 0)=x/\
     (if row.getD (q-1) 0+0<(if nx.getD (q-1) 0+1<row.getD q 0+1 then nx.getD (q-1) 0+1 else row.getD q 0+1)then row.getD (q-1) 0+0 else(if nx.getD (q-1) 0+1<row.getD q 0+1 then nx.getD (q-1) 0+1 else row.getD q 0+1))=x/\0<=x/\x<=c+1/\x=((lv (bt a) (bt b) i q:Nat):Int):=by
    first
     |rw[if_pos cb]at v4
     |rw[if_neg cb]at v4
    refine⟨_,rfl,?_,?_,?_,?_⟩
    ·repeat' split
     all_goals omega
    ·repeat' split
     all_goals omega
    ·repeat' split
     all_goals omega
    ·repeat' split
     all_goals omega
   obtain⟨r,e1,e2,e3⟩:=Qa7 a b hb row c hc hc2 hrow i hi hi2 ha hv m (q+1) (by omega) (by omega) (nx++[x]) (Qa5 hn x3 x4) (Qa6 hn.1 hnv x5)
   refine⟨r,Ev.step (λk=>by rw[Z4.l4]) ?_,Ev.step (λk=>by rw[Z3.l4]) ?_,e3⟩
   ·simp(disch:=omega) only[Qa,Int.toNat_natCast,wrap_in,eq1]
    refine Ev.bind0 (DO _ _) ?_
    have b1:0<=(if row.getD q 0<nx.getD (q-1) 0 then row.getD q 0 else nx.getD (q-1) 0)/\(if row.getD q 0<nx.getD (q-1) 0 then row.getD q 0 else nx.getD (q-1) 0)<=c+1:=by split<;>omega
    simp(disch:=first|exact cb|omega) only[Qa,Int.toNat_natCast,wrap_in,ei1,eq1,ceq]
    refine Ev.bind0 (DO _ _) ?_
    rw[x1]
    simp(disch:=omega) only[hr,cond_true,wrap_in]
    exact e1
   ·simp(disch:=first|exact cb|omega) only[Qa,Int.toNat_natCast,wrap_in,ei1,eq1,ceq,x2,hr,cond_true]
    exact e2
  ·obtain⟨x,x1,x2,x3,x4,x5⟩:∃x:Int,(if(if row.getD q 0<nx.getD (q-1) 0 then row.getD q 0 else nx.getD (q-1) 0)+1<row.getD (q-1) 0+1 then(if row.getD q 0<nx.getD (q-1) 0 then row.getD q 0 else nx.getD (q-1) 0)+1 else row.getD (q-1) 0+1)=x/\
     (if row.getD (q-1) 0+1<(if nx.getD (q-1) 0+1<row.getD q 0+1 then nx.getD (q-1) 0+1 else row.getD q 0+1)then row.getD (q-1) 0+1 else(if nx.getD (q-1) 0+1<row.getD q 0+1 then nx.getD (q-1) 0+1 else row.getD q 0+1))=x/\0<=x/\x<=c+1/\x=((lv (bt a) (bt b) i q:Nat):Int):=by
    first
     |rw[if_pos cb]at v4
     |rw[if_neg cb]at v4
    refine⟨_,rfl,?_,?_,?_,?_⟩
    ·repeat' split
     all_goals omega
    ·repeat' split
     all_goals omega
    ·repeat' split
     all_goals omega
    ·repeat' split
     all_goals omega
   obtain⟨r,e1,e2,e3⟩:=Qa7 a b hb row c hc hc2 hrow i hi hi2 ha hv m (q+1) (by omega) (by omega) (nx++[x]) (Qa5 hn x3 x4) (Qa6 hn.1 hnv x5)
   refine⟨r,Ev.step (λk=>by rw[Z4.l4]) ?_,Ev.step (λk=>by rw[Z3.l4]) ?_,e3⟩
   ·simp(disch:=omega) only[Qa,Int.toNat_natCast,wrap_in,eq1]
    refine Ev.bind0 (DO _ _) ?_
    have b1:0<=(if row.getD q 0<nx.getD (q-1) 0 then row.getD q 0 else nx.getD (q-1) 0)/\(if row.getD q 0<nx.getD (q-1) 0 then row.getD q 0 else nx.getD (q-1) 0)<=c+1:=by split<;>omega
    simp(disch:=first|exact cb|omega) only[Qa,Int.toNat_natCast,wrap_in,ei1,eq1,cne]
    refine Ev.bind0 (DO _ _) ?_
    rw[x1]
    simp(disch:=omega) only[hr,cond_true,wrap_in]
    exact e1
   ·simp(disch:=first|exact cb|omega) only[Qa,Int.toNat_natCast,wrap_in,ei1,eq1,cne,x2,hr,cond_true]
    exact e2
theorem Qbx (a b:ByteArray)(hb:b.size<=100000000)(ha:a.size<=100000000):∀m i:Nat,i+m=a.size+1->1<=i->∀row:List Int,Bd row (b.size+1) ((b.size+i:Nat):Int)->Rv a b row (b.size+1) (i-1)->
  ∃r,Ev (λk=>Z4.l2 k a b row i) (b,r)/\Ev (λk=>Z3.l2 k a b row i) (b,r)/\r.length=b.size+1/\0<=r.getD b.size 0/\r.getD b.size 0<=400000000/\r.getD b.size 0=((lv (bt a) (bt b) a.size b.size:Nat):Int)
 |0,i,h,h1,row,hr,hv=>by
  have:=hr.2 b.size (by omega)
  refine⟨row,Ev.step (λk=>by rw[Z4.l2]) ?_,Ev.step (λk=>by rw[Z3.l2]) ?_,hr.1,this.1,by omega,by rw[show a.size=i-1 by omega];exact hv _ (by omega)⟩
  ·simp(disch:=omega) only[Qk];exact Ev.pure _
  ·simp(disch:=omega) only[Qk];exact Ev.pure _
 |m+1,i,h,h1,row,hr,hv=>by
  have hv1:Rv a b [(i:Int)] 1 i:=λj hj=>by
   obtain rfl:j=0:=by omega
   rw[Qa1];rfl
  have hb1:Bd [(i:Int)] 1 (((b.size+i:Nat):Int)+1):=⟨rfl,λj hj=>by
   obtain rfl:j=0:=by omega
   show 0<=(i:Int)/\(i:Int)<=_
   omega⟩
  obtain⟨nx,n1,n2,n3,n4⟩:=Qa7 a b hb row ((b.size+i:Nat):Int) (by omega) (by omega) hr i h1 (by omega) (by omega) hv b.size 1 (by omega) (Nat.le_refl _) [(i:Int)] hb1 hv1
  obtain⟨r,r1,r2,r3⟩:=Qbx a b hb ha m (i+1) (by omega) (by omega) nx (by
   rw[show((b.size+(i+1):Nat):Int)=((b.size+i:Nat):Int)+1 by omega]
   exact n3) n4
  refine⟨r,Ev.step (λk=>by rw[Z4.l2]) ?_,Ev.step (λk=>by rw[Z3.l2]) ?_,r3⟩
  ·simp(disch:=omega) only[Qa]
   refine Ev.bind n1 ?_
   simp(disch:=omega) only[wrap_in]
   exact r1
  ·simp(disch:=omega) only[Qa]
   refine Ev.bind n2 ?_
   simp(disch:=omega) only[wrap_in]
   exact r2
open Classical in
noncomputable def pW (s:ByteArray):ByteArray:=if h:s.size<=40 then(Q4M s h).choose else⟨#[]⟩
theorem Qby (s:ByteArray)(h:s.size<=40):Ev (λk=>Z83.F k s) (pW s)/\Ev (λk=>Z23.F k s) (pW s)/\(pW s).size<=100000000:=by
 unfold pW
 rw[dif_pos h]
 exact(Q4M s h).choose_spec
noncomputable def dV (s t:ByteArray):Nat:=lv (bt (pW s)) (bt (pW t)) (pW s).size (pW t).size
theorem Q4O (s t:ByteArray)(hs:s.size<=40)(ht:t.size<=40):Ev (λk=>Z63.F k s t) ((dV s t:Nat):Int)/\Ev (λk=>Z3.F k s t) ((dV s t:Nat):Int):=by
 obtain⟨a1,a2,a3⟩:=Qby s hs
 obtain⟨b1,b2,b3⟩:=Qby t ht
 unfold dV
 generalize pW s=a at*
 generalize pW t=b at*
 have h0:Bd (KO (b.size+1)) (b.size+1) ((b.size+1:Nat):Int):=⟨Q1x _,λj hj=>by rw[Q4N hj];omega⟩
 have hv:Rv a b (KO (b.size+1)) (b.size+1) (1-1):=λj hj=>by rw[Q4N hj,Qc2]
 obtain⟨r,r1,r2,r3,r4,r5,r6⟩:=Qbx a b b3 a3 a.size 1 (by omega) (Nat.le_refl _) (KO (b.size+1)) h0 hv
 rw[<-r6]
 refine⟨?_,?_⟩
 ·unfold Z63.F
  refine Ev.bind a1 (Ev.bind b1 (Ev.bind (a:=r.getD b.size 0) ?_ (Ev.pure _)))
  unfold Z4.F
  refine Ev.bind (Q6V a b b3 (b.size+1) 0 (by omega)) (Ev.bind r1 ?_)
  simp(disch:=omega) only[Qa,Int.toNat_natCast]
  exact Ev.pure _
 ·unfold Z3.F
  refine Ev.bind a2 (Ev.bind b2 ?_)
  simp(disch:=omega) only[wrap_in]
  refine Ev.bind (Q6W a b b3 (b.size+1) 0 (by omega)) (Ev.bind r2 ?_)
  simp(disch:=omega) only[Qa,Int.toNat_natCast]
  exact Ev.pure _
theorem Qb5 (s t:ByteArray)(hs:s.size<=40)(ht:t.size<=40):∃d:Int,Ev (λk=>Z63.F k s t) d/\Ev (λk=>Z3.F k s t) d/\0<=d:=by
 obtain⟨h1,h2⟩:=Q4O s t hs ht
 exact⟨_,h1,h2,by omega⟩
theorem Qb6 (s t:ByteArray):dV s t=dV t s:=Q0q _ _ _ _ _ (Nat.le_refl _)
end Go.Proofs.YtoojiikgbopeiaaGreatDoor
end
section
/- Plain laws: entries that are alike;the parts of a valid entry. -/
namespace Go.Proofs.YtoojiikgbopeiaaGreatDoor
open Go.Gx
theorem J8 {e:Entry}(h:JE e=true):Y8 e.authors=true/\Y5 e.title=true:=by
 unfold JE at h
 simp only[Bool.and_eq_true]at h
 exact⟨h.2.2.1,h.2.2.2.2.1⟩
theorem Un {s:ByteArray}(h:Y5 s=true):s.size<=40:=by
 unfold Y5 at h
 simp only[Bool.and_eq_true,decide_eq_true_eq]at h
 exact h.1
theorem U6 {l:Library}(h:U5 l=true){i:Nat}(hi:i<l.entries.length):JE l.entries[i]=true:=by
 unfold U5 at h
 rw[Bool.and_eq_true,List.all_eq_true]at h
 have:=h.1 i (by rw[List.mem_range'_1];omega)
 unfold okL at this
 rw[Bool.and_eq_true,getD_at hi]at this
 exact this.1
theorem U7 {l:List Name}(h:Y8 l=true):l.length<=4/\∀n∈l,n.given.length<=3/\∀w∈n.given,1<=w.size/\w.size<=12:=by
 unfold Y8 at h
 rw[Bool.and_eq_true,decide_eq_true_eq,List.all_eq_true]at h
 refine⟨h.2,λn hn=>?_⟩
 have:=h.1 n hn
 unfold nameB at this
 simp only[Bool.and_eq_true,decide_eq_true_eq,List.all_eq_true]at this
 refine⟨this.2.1,λw hw=>?_⟩
 have:=this.1 w hw
 unfold gw at this
 rw[Bool.and_eq_true]at this
 have h1:=this.1
 unfold Ul at h1
 rw[Bool.and_eq_true]at h1
 have:=XX h1.1
 omega
theorem i1 {n:Nat}(h:n≠1):((n:Int)==1)=false:=by rw[beq_eq_false_iff_ne];omega
theorem ieq {n m:Nat}(h:n≠m):((n:Int)==(m:Int))=false:=by rw[beq_eq_false_iff_ne];omega
def Q67 (a b:ByteArray):Bool:=Qr a b||((decide (a.size=1)&&(bt a 0==bt b 0))||(decide (b.size=1)&&(bt a 0==bt b 0)))
theorem Q6X (a b:ByteArray)(ha:1<=a.size)(hb:1<=b.size):Z99.F a b=some (Q67 a b):=by
 unfold Z99.F Q67
 have z:(0:Int).toNat=0:=rfl
 have ea:((a.size:Int)==1)=decide (a.size=1):=by
  by_cases c:a.size=1
  ·rw[decide_eq_true c,c];rfl
  ·rw[decide_eq_false c];exact i1 c
 have eb:((b.size:Int)==1)=decide (b.size=1):=by
  by_cases c:b.size=1
  ·rw[decide_eq_true c,c];rfl
  ·rw[decide_eq_false c];exact i1 c
 rw[ea,eb]
 simp(disch:=omega) only[Qa,z]
 cases Qr a b<;>cases decide (a.size=1)<;>cases decide (b.size=1)<;>cases (bt a 0==bt b 0)<;>rfl
theorem Qc6 (s p:ByteArray):Z79.F s p=some (decide ((p.size:Int)<=(s.size:Int))&&Qr (s.extract 0 p.size) p):=by
 unfold Z79.F Z118.F
 by_cases c:(p.size:Int)<=(s.size:Int)
 ·simp(disch:=omega) only[Q1h,cond_true,Int.toNat_natCast,Option.bind_some,Bool.true_and]
 ·simp(disch:=omega) only[Q0c,cond_false,Option.bind_some,Bool.false_and]
theorem Q3w (s p:ByteArray)(hp:p.size=1)(hs:1<=s.size):Z79.F s p=some (bt p 0==bt s 0):=by
 rw[Qc6,decide_eq_true (by omega),Bool.true_and,hp]
 congr 1
 rw[Q6N,QW,List.drop_zero]
 have h1:∃x,L p=[x]:=List.length_eq_one_iff.1 hp
 obtain⟨x,hx⟩:=h1
 obtain⟨y,l,hy⟩:∃y l,L s=y::l:=by
  cases h:L s with
  |nil=>have:=Jh s;rw[h]at this;simp at this;omega
  |cons y l=>exact⟨y,l,rfl⟩
 rw[Q9D,Q9D,hx,hy]
 show([y]==[x])=((x.toNat:Int)==(y.toNat:Int))
 by_cases e:x=y
 ·subst e;simp
 ·have:(x.toNat:Int)≠(y.toNat:Int):=λh=>e (UInt8.toNat_inj.1 (by omega))
  rw[show((x.toNat:Int)==(y.toNat:Int))=false by simpa using this]
  have:¬y=x:=λh=>e h.symm
  simpa using this
def Q0d (a b:Name)(i:Nat):Bool:=Q67 (a.given.getD i ⟨#[]⟩) (b.given.getD i ⟨#[]⟩)
def Q4P (a b:Name):Bool:=(List.range' 0 (min a.given.length b.given.length)).all (Q0d a b)&&(Qr a.particle b.particle&&(Qr a.family b.family&&Qr a.suffix b.suffix))
theorem getD_mem {xs:List ByteArray}{i:Nat}(h:i<xs.length):xs.getD i ⟨#[]⟩∈xs:=by rw[getD_at h];exact List.getElem_mem h
theorem Q68 (a b:Name)(ha:a.given.length<=3)(wa:∀w∈a.given,1<=w.size/\w.size<=12)(wb:∀w∈b.given,1<=w.size/\w.size<=12):Ev (λk=>Z32.l0 k a b ((0:Nat):Int)) (if(List.range' 0 (min a.given.length b.given.length)).all (Q0d a b)=true then .inr (a,b)else .inl false):=by
 refine Jn (f:=λk i=>Z32.l0 k a b i) (n:=min a.given.length b.given.length) (λi hi hp=>?_) (λi r hi hp ih=>?_) ?_ _ 0 (by omega)
 ·refine Ev.step (λk=>by rw[Z32.l0]) ?_
  simp(disch:=omega) only[Qa,Int.toNat_natCast]
  refine Ev.bind0 (Q6X _ _ (wa _ (getD_mem (by omega))).1 (wb _ (getD_mem (by omega))).1) ?_
  unfold Q0d at hp
  rw[hp]
  exact Ev.pure _
 ·refine Ev.step (λk=>by rw[Z32.l0]) ?_
  simp(disch:=omega) only[Qa,Int.toNat_natCast]
  refine Ev.bind0 (Q6X _ _ (wa _ (getD_mem (by omega))).1 (wb _ (getD_mem (by omega))).1) ?_
  unfold Q0d at hp
  rw[hp]
  simp(disch:=omega) only[Bool.not_true,cond_false,wrap_in]
  exact ih
 ·refine Ev.step (λk=>by rw[Z32.l0]) ?_
  by_cases c:a.given.length<=b.given.length
  ·simp(disch:=omega) only[Qk]
   exact Ev.pure _
  ·simp(disch:=omega) only[Qa,Qk]
   exact Ev.pure _
theorem Qa8 (a b:Name)(ha:a.given.length<=3)(wa:∀w∈a.given,1<=w.size/\w.size<=12)(wb:∀w∈b.given,1<=w.size/\w.size<=12):Ev (λk=>Z16.l0 k a b ((0:Nat):Int)) (if(List.range' 0 (min a.given.length b.given.length)).all (Q0d a b)=true then .inr ()else .inl false):=by
 have hm:(if(b.given.length:Int)<(a.given.length:Int)then(b.given.length:Int)else(a.given.length:Int))=((min a.given.length b.given.length:Nat):Int):=by split<;>omega
 have body:∀i:Nat,i<min a.given.length b.given.length->∀r,(Q0d a b i=true->Ev (λk=>Z16.l0 k a b ((i:Int)+1)) r)->(Q0d a b i=false->r= .inl false)->Ev (λk=>Z16.l0 k a b i) r:=λi hi r h1 h2=>by
  have xa:=wa _ (getD_mem (show i<a.given.length by omega))
  have xb:=wb _ (getD_mem (show i<b.given.length by omega))
  refine Ev.step (λk=>by rw[Z16.l0]) ?_
  rw[hm]
  simp(disch:=omega) only[Qa,Int.toNat_natCast]
  unfold Q0d Q67 at h1 h2
  revert h1 h2
  generalize a.given.getD i ⟨#[]⟩=x at xa ⊢
  generalize b.given.getD i ⟨#[]⟩=y at xb ⊢
  intro h1 h2
  cases e:Qr x y with
  |true=>
   rw[e]at h1
   simp(disch:=omega) only[Bool.not_true,cond_false,wrap_in]
   exact h1 rfl
  |false=>
   rw[e,Bool.false_or]at h1 h2
   have q:(bt x 0==bt y 0)=(bt y 0==bt x 0):=Bool.eq_iff_iff.2 (by rw[beq_iff_eq,beq_iff_eq];exact eq_comm)
   by_cases cx:x.size=1
   ·have hx1:((x.size:Int)==1)=true:=by rw[cx];rfl
    simp only[hx1,Bool.not_false,cond_true]
    refine Ev.bind0 (Q3w y x cx xb.1) ?_
    rw[decide_eq_true cx]at h1 h2
    cases eb:(bt x 0==bt y 0)with
    |true=>
     rw[eb]at h1
     simp(disch:=omega) only[Bool.not_true,cond_false,wrap_in]
     exact h1 rfl
    |false=>
     rw[eb]at h2
     have:=h2 (by simp)
     subst this
     simp only[Bool.not_false,cond_true]
     by_cases cy:y.size=1
     ·have hy1:((y.size:Int)==1)=true:=by rw[cy];rfl
      simp only[hy1,cond_true]
      refine Ev.bind0 (Q3w x y cy xa.1) ?_
      rw[<-q,eb]
      exact Ev.pure _
     ·have hy1:((y.size:Int)==1)=false:=i1 cy
      simp only[hy1,cond_false]
      exact Ev.pure _
   ·have hx1:((x.size:Int)==1)=false:=i1 cx
    simp only[hx1,Bool.not_false,cond_true,cond_false]
    rw[decide_eq_false cx]at h1 h2
    by_cases cy:y.size=1
    ·have hy1:((y.size:Int)==1)=true:=by rw[cy];rfl
     rw[decide_eq_true cy]at h1 h2
     simp only[hy1,cond_true]
     refine Ev.bind0 (Q3w x y cy xa.1) ?_
     rw[<-q]
     cases eb:(bt x 0==bt y 0)with
     |true=>
      rw[eb]at h1
      simp(disch:=omega) only[Bool.not_true,cond_false,wrap_in]
      exact h1 rfl
     |false=>
      rw[eb]at h2
      rw[h2 rfl]
      exact Ev.pure _
    ·have hy1:((y.size:Int)==1)=false:=i1 cy
     rw[decide_eq_false cy]at h2
     simp only[hy1,cond_false]
     rw[h2 rfl]
     exact Ev.pure _
 refine Jn (f:=λk i=>Z16.l0 k a b i) (n:=min a.given.length b.given.length) (λi hi hp=>?_) (λi r hi hp ih=>?_) ?_ _ 0 (by omega)
 ·exact body i hi _ (λh=>by rw[hp]at h;cases h) (λ_=>rfl)
 ·exact body i hi _ (λ_=>ih) (λh=>by rw[hp]at h;cases h)
 ·refine Ev.step (λk=>by rw[Z16.l0]) ?_
  rw[hm]
  simp(disch:=omega) only[Qk]
  exact Ev.pure _
theorem Q1y (a b:Name)(ha:a.given.length<=3)(wa:∀w∈a.given,1<=w.size/\w.size<=12)(wb:∀w∈b.given,1<=w.size/\w.size<=12):Ev (λk=>Z32.F k a b) (Q4P a b):=by
 unfold Z32.F Q4P
 have:=Q68 a b ha wa wb
 cases h:(List.range' 0 (min a.given.length b.given.length)).all (Q0d a b)with
 |false=>rw[h]at this;exact Ev.bind this (Ev.pure _)
 |true=>
  rw[h]at this
  refine Ev.bind (a:=.inr (a,b)) this ?_
  dsimp only
  cases Qr a.particle b.particle<;>cases Qr a.family b.family<;>exact Ev.pure _
theorem Q4Q (a b:Name)(ha:a.given.length<=3)(wa:∀w∈a.given,1<=w.size/\w.size<=12)(wb:∀w∈b.given,1<=w.size/\w.size<=12):Ev (λk=>Z16.F k a b) (Q4P a b):=by
 unfold Z16.F Q4P
 have:=Qa8 a b ha wa wb
 have e:∀c:Bool,Ev (λk=>(Z16.l0 k a b 0).bind λy4=>match y4 with|.inl z5=>some z5|.inr z5=>some true) c ↔ Ev (λk=>(Z16.l0 k a b ((0:Nat):Int)).bind λy4=>match y4 with|.inl z5=>some z5|.inr z5=>some true) c:=λc=>Iff.rfl
 have fin:Ev (λk=>(Z16.l0 k a b 0).bind λy4=>match y4 with|.inl z5=>some z5|.inr z5=>some true) ((List.range' 0 (min a.given.length b.given.length)).all (Q0d a b)):=by
  rw[e]
  cases h:(List.range' 0 (min a.given.length b.given.length)).all (Q0d a b)with
  |false=>rw[h]at this;exact Ev.bind this (Ev.pure _)
  |true=>rw[h]at this;exact Ev.bind this (Ev.pure _)
 cases Qr a.particle b.particle with
 |false=>simp only[Bool.not_false,cond_true,Bool.false_and,Bool.and_false];exact Ev.pure _
 |true=>
  cases Qr a.family b.family with
  |false=>simp only[Bool.not_false,Bool.not_true,cond_true,cond_false,Bool.false_and,Bool.and_false];exact Ev.pure _
  |true=>
   cases Qr a.suffix b.suffix with
   |false=>simp only[Bool.not_false,Bool.not_true,cond_true,cond_false,Bool.and_false];exact Ev.pure _
   |true=>simp only[Bool.not_true,cond_false,Bool.and_true];exact fin
def peG (a b:List Name)(i:Nat):Bool:=Q4P (a.getD i (Q4 .name)) (b.getD i (Q4 .name))
def U8 (a b:List Name):Bool:=(List.range' 0 (min a.length b.length)).all (peG a b)&&decide (a.length=b.length)
theorem Q04 {l:List Name}{i:Nat}(hl:∀n∈l,n.given.length<=3/\∀w∈n.given,1<=w.size/\w.size<=12)(h:i<l.length):(l.getD i (Q4 .name)).given.length<=3/\∀w∈(l.getD i (Q4 .name)).given,1<=w.size/\w.size<=12:=by
 rw[getD_at h];exact hl _ (List.getElem_mem h)
theorem Q1X (a b:List Name)(ha:Y8 a=true)(hb:Y8 b=true):Ev (λk=>Z33.F k a b) (U8 a b):=by
 obtain⟨a1,a2⟩:=U7 ha
 obtain⟨b1,b2⟩:=U7 hb
 have loop:Ev (λk=>Z33.l0 k a b ((0:Nat):Int)) (if(List.range' 0 (min a.length b.length)).all (peG a b)=true then .inr (a,b)else .inl false):=by
  refine Jn (f:=λk i=>Z33.l0 k a b i) (n:=min a.length b.length) (λi hi hp=>?_) (λi r hi hp ih=>?_) ?_ _ 0 (by omega)
  ·obtain⟨x1,x2⟩:=Q04 a2 (show i<a.length by omega)
   obtain⟨y1,y2⟩:=Q04 b2 (show i<b.length by omega)
   refine Ev.step (λk=>by rw[Z33.l0]) ?_
   simp(disch:=omega) only[Qa,Int.toNat_natCast]
   refine Ev.bind (Q1y _ _ x1 x2 y2) ?_
   unfold peG at hp
   rw[hp]
   exact Ev.pure _
  ·obtain⟨x1,x2⟩:=Q04 a2 (show i<a.length by omega)
   obtain⟨y1,y2⟩:=Q04 b2 (show i<b.length by omega)
   refine Ev.step (λk=>by rw[Z33.l0]) ?_
   simp(disch:=omega) only[Qa,Int.toNat_natCast]
   refine Ev.bind (Q1y _ _ x1 x2 y2) ?_
   unfold peG at hp
   rw[hp]
   simp(disch:=omega) only[Bool.not_true,cond_false,wrap_in]
   exact ih
  ·refine Ev.step (λk=>by rw[Z33.l0]) ?_
   by_cases c:a.length<=b.length
   ·simp(disch:=omega) only[Qk]
    exact Ev.pure _
   ·simp(disch:=omega) only[Qa,Qk]
    exact Ev.pure _
 unfold Z33.F U8
 cases h:(List.range' 0 (min a.length b.length)).all (peG a b)with
 |false=>rw[h]at loop;exact Ev.bind loop (Ev.pure _)
 |true=>
  rw[h]at loop
  refine Ev.bind loop ((Ev.pure _).eq ?_)
  show((a.length:Int)==(b.length:Int))=_
  by_cases c:a.length=b.length
  ·rw[c];simp
  ·rw[ieq c,decide_eq_false c];rfl
theorem Q1Y (a b:List Name)(ha:Y8 a=true)(hb:Y8 b=true):Ev (λk=>Z24.F k a b) (U8 a b):=by
 obtain⟨a1,a2⟩:=U7 ha
 obtain⟨b1,b2⟩:=U7 hb
 unfold Z24.F U8
 by_cases c:a.length=b.length
 ·have loop:Ev (λk=>Z24.l0 k a b a.length ((0:Nat):Int)) (if(List.range' 0 (min a.length b.length)).all (peG a b)=true then .inr (a,b)else .inl false):=by
   refine Jn (f:=λk i=>Z24.l0 k a b a.length i) (n:=min a.length b.length) (λi hi hp=>?_) (λi r hi hp ih=>?_) ?_ _ 0 (by omega)
   ·obtain⟨x1,x2⟩:=Q04 a2 (show i<a.length by omega)
    obtain⟨y1,y2⟩:=Q04 b2 (show i<b.length by omega)
    refine Ev.step (λk=>by rw[Z24.l0]) ?_
    simp(disch:=omega) only[Qa,Gm,Int.toNat_natCast]
    refine Ev.bind (Q4Q _ _ x1 x2 y2) ?_
    unfold peG at hp
    rw[hp]
    exact Ev.pure _
   ·obtain⟨x1,x2⟩:=Q04 a2 (show i<a.length by omega)
    obtain⟨y1,y2⟩:=Q04 b2 (show i<b.length by omega)
    refine Ev.step (λk=>by rw[Z24.l0]) ?_
    simp(disch:=omega) only[Qa,Gm,Int.toNat_natCast]
    refine Ev.bind (Q4Q _ _ x1 x2 y2) ?_
    unfold peG at hp
    rw[hp]
    simp(disch:=omega) only[Bool.not_true,cond_false,wrap_in]
    exact ih
   ·refine Ev.step (λk=>by rw[Z24.l0]) ?_
    simp(disch:=omega) only[Qk]
    exact Ev.pure _
  cases h:(List.range' 0 (min a.length b.length)).all (peG a b)with
  |false=>rw[h]at loop;exact Ev.bind loop (Ev.pure _)
  |true=>
   rw[h]at loop
   refine Ev.bind loop ((Ev.pure _).eq ?_)
   show((a.length:Int)==(b.length:Int))=_
   rw[c];simp
 ·rw[decide_eq_false c,Bool.and_false]
  by_cases z:a.length=0
  ·refine Ev.bind (a:=.inr (a,b)) ?_ ?_
   ·refine Ev.step (λk=>by rw[Z24.l0]) ?_
    simp(disch:=omega) only[Qk]
    exact Ev.pure _
   ·exact(Ev.pure _).eq (ieq c)
  ·refine Ev.bind (a:=.inl false) ?_ ?_
   ·refine Ev.step (λk=>by rw[Z24.l0]) ?_
    simp(disch:=omega) only[Qa,Q1g]
    exact Ev.pure _
   ·exact Ev.pure _
open Classical in
noncomputable def dW (s t:ByteArray):Int:=if h:∃d:Int,Ev (λk=>Z63.F k s t) d/\Ev (λk=>Z3.F k s t) d/\0<=d then h.choose else 0
theorem Q4R (s t:ByteArray)(hs:Y5 s=true)(ht:Y5 t=true):Ev (λk=>Z63.F k s t) (dW s t)/\Ev (λk=>Z3.F k s t) (dW s t)/\0<=dW s t:=by
 have h:=Qb5 s t (Un hs) (Un ht)
 unfold dW
 rw[dif_pos h]
 exact h.choose_spec
end Go.Proofs.YtoojiikgbopeiaaGreatDoor
end
section
/- Plain laws: an entry found by its key;its parent. -/
namespace Go.Proofs.YtoojiikgbopeiaaGreatDoor
open Go.Gx
end Go.Proofs.YtoojiikgbopeiaaGreatDoor
end
section
/- Plain laws: the chain of an entry,keys,entries found by their keys. -/
namespace Go.Proofs.YtoojiikgbopeiaaGreatDoor
open Go.Gx
theorem Q69:∀x:List UInt8,Op.bytesLess x x=false
 |[]=>rfl
 |a::x=>by
  have:¬a<a:=by simp
  simp[Op.bytesLess,Q69 x]
theorem Q4S:∀{x y z:List UInt8},Op.bytesLess x y=true->Op.bytesLess y z=true->Op.bytesLess x z=true
 |x,y,[],_,h=>by cases y<;>simp[Op.bytesLess]at h
 |x,[],c::z,h,_=>by cases x<;>simp[Op.bytesLess]at h
 |[],b::y,c::z,_,_=>rfl
 |a::x,b::y,c::z,h,k=>by
  simp only[Op.bytesLess,Bool.or_eq_true,decide_eq_true_eq,Bool.and_eq_true,beq_iff_eq]at h k ⊢
  rcases h with h|⟨rfl,h⟩
  ·rcases k with k|⟨rfl,k⟩
   ·exact .inl (UInt8.lt_trans h k)
   ·exact .inl h
  ·rcases k with k|⟨rfl,k⟩
   ·exact .inl k
   ·exact .inr ⟨rfl,Q4S h k⟩
def kAt (l:Library)(x:Int):ByteArray:=(l.entries.getD x.toNat (Q4 .entry)).key
theorem Q6Y {l:Library}(h:U5 l=true):∀(d i:Nat),i+d+1<l.entries.length->ltS (l.entries.getD i (Q4 .entry)).key (l.entries.getD (i+d+1) (Q4 .entry)).key=true:=by
 have hok:∀j,j<l.entries.length->okL l j=true:=by
  intro j hj
  unfold U5 at h
  simp only[Bool.and_eq_true,List.all_eq_true]at h
  exact h.1 j (by simp;omega)
 have step:∀j,j+1<l.entries.length->ltS (l.entries.getD j (Q4 .entry)).key (l.entries.getD (j+1) (Q4 .entry)).key=true:=by
  intro j hj
  have:=hok (j+1) hj
  unfold okL at this
  simp only[Bool.and_eq_true,Bool.or_eq_true,decide_eq_true_eq]at this
  rcases this.2 with h0|h0
  ·omega
  ·exact h0
 intro d
 induction d with
 |zero=>intro i hi;exact step i hi
 |succ d ih=>
  intro i hi
  exact Q4S (ih i (by omega)) (step (i+d+1) (by omega))
theorem Qb7 {l:Library}(h:U5 l=true){i j:Nat}(hi:i<l.entries.length)(hj:j<l.entries.length)(he:(l.entries.getD i (Q4 .entry)).key=(l.entries.getD j (Q4 .entry)).key):i=j:=by
 apply Classical.byContradiction
 intro hne
 rcases Nat.lt_or_gt_of_ne hne with hlt|hlt
 ·obtain⟨d,rfl⟩:∃d,j=i+d+1:=⟨j-i-1,by omega⟩
  have:=Q6Y h d i hj
  rw[he]at this
  unfold ltS at this
  rw[Q69]at this
  cases this
 ·obtain⟨d,rfl⟩:∃d,i=j+d+1:=⟨i-j-1,by omega⟩
  have:=Q6Y h d j hi
  rw[he]at this
  unfold ltS at this
  rw[Q69]at this
  cases this
theorem Gw:∀(n:Nat) (l:List Int),l.Nodup->(∀x∈l,0<=x/\x<n)->l.length<=n
 |0,l,_,h=>by
  cases l with
  |nil=>simp
  |cons a l=>have:=h a List.mem_cons_self;omega
 |n+1,l,hn,h=>by
  by_cases hm:(n:Int)∈l
  ·have h1:=Gw n (l.erase n) (hn.erase _) λx hx=>by
    rw[hn.mem_erase_iff]at hx
    have:=h x hx.2
    have:=hx.1
    omega
   rw[List.length_erase_of_mem hm]at h1
   omega
  ·have h1:=Gw n l hn λx hx=>by
    have:=h x hx
    have:x≠n:=λe=>hm (e▸hx)
    omega
   omega
theorem Q6Z {n:Nat}(h:n<=8192):room n (.int .i64)=true:=by
 show Nat.ble (n*8) 140737488355328=true
 exact Nat.ble_eq_true_of_le (by omega)
end Go.Proofs.YtoojiikgbopeiaaGreatDoor
end
section
/- Plain laws: marks of lists of texts;deep marks of names,entries and libraries. -/
namespace Go.Proofs.YtoojiikgbopeiaaGreatDoor
open Go.Gx
end Go.Proofs.YtoojiikgbopeiaaGreatDoor
end
section
/- Plain laws: deep marks of names,entries and libraries. -/
namespace Go.Proofs.YtoojiikgbopeiaaGreatDoor
open Go.Gx
end Go.Proofs.YtoojiikgbopeiaaGreatDoor
end
section
/- Marks of trees: what they hold then,and that it is held. -/
namespace Go.Proofs.YtoojiikgbopeiaaGreatDoor
open Go.Gx
end Go.Proofs.YtoojiikgbopeiaaGreatDoor
end
section
/- Plain laws: lists of lists of texts. -/
namespace Go.Proofs.YtoojiikgbopeiaaGreatDoor
open Go.Gx
theorem Qb8 {n:Nat}(h:n<=8192):room n (.sl .str)=true:=by
 have h2:nb (.sl .str)<=1000:=by decide
 have h3:n*nb (.sl .str)<=8192*1000:=Nat.mul_le_mul h h2
 exact Nat.ble_eq_true_of_le (Nat.le_trans h3 (by decide))
end Go.Proofs.YtoojiikgbopeiaaGreatDoor
end
section
/- Groups: what is connected;labels;ascending lists. No program in sight. -/
namespace Go.Proofs.YtoojiikgbopeiaaGreatDoor
open Go.Gx
inductive Cn (n:Nat)(R:Nat->Nat->Bool):Nat->Nat->Prop
 |refl {i:Nat}:i<n->Cn n R i i
 |step {i j k:Nat}:Cn n R i j->k<n->R j k=true->Cn n R i k
theorem Cn.lt {n:Nat}{R:Nat->Nat->Bool}{i j:Nat}(h:Cn n R i j):i<n/\j<n:=by
 induction h with
 |refl h=>exact⟨h,h⟩
 |step _ hk _ ih=>exact⟨ih.1,hk⟩
theorem Cn.trans {n:Nat}{R:Nat->Nat->Bool}{i j k:Nat}(h:Cn n R i j)(h':Cn n R j k):Cn n R i k:=by
 induction h' with
 |refl _=>exact h
 |step _ hk hr ih=>exact .step ih hk hr
theorem Cn.symm {n:Nat}{R:Nat->Nat->Bool}(hR:∀i j,R i j=R j i){i j:Nat}(h:Cn n R i j):Cn n R j i:=by
 induction h with
 |refl h=>exact .refl h
 |step h hk hr ih=>exact Cn.trans (.step (.refl hk) h.lt.2 ((hR _ _).trans hr)) ih
abbrev Asc (l:List Int):Prop:=l.Pairwise (· < ·)
theorem Qa9:∀{l m:List Int},Asc l->Asc m->(∀x,x∈l ↔ x∈m)->l=m
 |[],[],_,_,_=>rfl
 |[],y::m,_,_,h=>absurd ((h y).2 List.mem_cons_self) (by simp)
 |x::l,[],_,_,h=>absurd ((h x).1 List.mem_cons_self) (by simp)
 |x::l,y::m,hl,hm,h=>by
  replace hl:=List.pairwise_cons.1 hl
  replace hm:=List.pairwise_cons.1 hm
  have e:x=y:=by
   have h1:=(h x).1 List.mem_cons_self
   have h2:=(h y).2 List.mem_cons_self
   rcases List.mem_cons.1 h1 with h1|h1
   ·exact h1
   ·rcases List.mem_cons.1 h2 with h2|h2
    ·exact h2.symm
    ·have:=hm.1 x h1
     have:=hl.1 y h2
     omega
  subst e
  rw[Qa9 hl.2 hm.2 λz=>?_]
  have:=h z
  rw[List.mem_cons,List.mem_cons]at this
  constructor
  ·intro hz
   rcases this.1 (.inr hz)with rfl|h'
   ·have:=hl.1 z hz;omega
   ·exact h'
  ·intro hz
   rcases this.2 (.inr hz)with rfl|h'
   ·have:=hm.1 z hz;omega
   ·exact h'
theorem Q4T {x:Int}{l:List Int}(h:Asc (x::l)){y:Int}(hy:y∈x::l):x<=y:=by
 replace h:=List.pairwise_cons.1 h
 rcases List.mem_cons.1 hy with rfl|hy
 ·omega
 ·have:=h.1 y hy;omega
def nums (i:Nat):Nat->List Int
 |0=>[]
 |m+1=>(i:Int)::nums (i+1) m
theorem Q1z:∀{m i:Nat} {x:Int},x∈nums i m ↔ (i:Int)<=x/\x<i+m
 |0,i,x=>by simp only[nums,List.not_mem_nil,false_iff];omega
 |m+1,i,x=>by
  rw[nums,List.mem_cons,Q1z]
  omega
theorem Q4U:∀m i:Nat,Asc (nums i m)
 |0,i=>.nil
 |m+1,i=>.cons (λx hx=>by have:=Q1z.1 hx;omega) (Q4U m (i+1))
theorem Q3x:∀(l:List Int) (i:Nat) (x:Int),i<l.length->(l.set i x).sum=l.sum-l.getD i 0+x
 |[],i,x,h=>absurd h (by simp)
 |y::l,0,x,h=>by simp;omega
 |y::l,i+1,x,h=>by
  have:=Q3x l i x (by simpa using h)
  simp only[List.set_cons_succ,List.sum_cons,this]
  simp
  omega
theorem Q1A (l:List Int)(i j:Nat)(x:Int)(h:i<l.length):(l.set i x).getD j 0=if i=j then x else l.getD j 0:=by
 rw[List.getD_eq_getElem?_getD,List.getElem?_set]
 by_cases e:i=j
 ·rw[if_pos e,if_pos e,if_pos h];rfl
 ·rw[if_neg e,if_neg e,List.getD_eq_getElem?_getD]
structure Lab (n:Nat)(R:Nat->Nat->Bool)(l:List Int):Prop where
 len:l.length=n
 lo:∀i,i<n->0<=l.getD i 0/\l.getD i 0<=i
 con:∀i,i<n->Cn n R (l.getD i 0).toNat i
theorem Q70:∀l:List Int,(∀i,i<l.length->0<=l.getD i 0)->0<=l.sum
 |[],_=>by simp
 |x::l,h=>by
  have h0:=h 0 (by simp)
  have h1:=Q70 l λi hi=>by have:=h (i+1) (by simpa using hi);simpa using this
  simp only[List.sum_cons]
  have h0:0<=x:=by simpa using h0
  omega
theorem Lab.sum {n:Nat}{R:Nat->Nat->Bool}{l:List Int}(h:Lab n R l):0<=l.sum:=Q70 l λi hi=>(h.lo i (h.len▸hi)).1
theorem Lab.join {n:Nat}{R:Nat->Nat->Bool}{l:List Int}(h:Lab n R l)(hR:∀i j,R i j=R j i){i k:Nat}(hi:i<n)(hk:k<i)(hr:R k i=true)(hne:l.getD i 0≠l.getD k 0){z:Int}(hz:z=if l.getD i 0<l.getD k 0 then l.getD i 0 else l.getD k 0) :
  Lab n R ((l.set i z).set k z)/\((l.set i z).set k z).sum<l.sum:=by
 have hlen:=h.len
 have hi':i<l.length:=by omega
 have hk':k<(l.set i z).length:=by rw[List.length_set];omega
 have hget:∀j,((l.set i z).set k z).getD j 0=if k=j then z else if i=j then z else l.getD j 0:=λj=>by rw[Q1A _ _ _ _ hk',Q1A _ _ _ _ hi']
 have li:=h.lo i hi
 have lk:=h.lo k (by omega)
 have ci:=h.con i hi
 have ck:=h.con k (by omega)
 have cik:Cn n R i k:=.step (.refl hi) (by omega) ((hR i k).trans hr)
 have cki:Cn n R k i:=.step (.refl (by omega)) hi hr
 refine⟨⟨by simp[hlen],λj hj=>?_,λj hj=>?_⟩,?_⟩
 ·rw[hget]
  by_cases e1:k=j
  ·rw[if_pos e1,hz];split<;>omega
  ·by_cases e2:i=j
   ·rw[if_neg e1,if_pos e2,hz];split<;>omega
   ·rw[if_neg e1,if_neg e2];exact h.lo j hj
 ·rw[hget]
  by_cases e1:k=j
  ·rw[if_pos e1,hz,<-e1]
   split
   ·exact ci.trans cik
   ·exact ck
  ·by_cases e2:i=j
   ·rw[if_neg e1,if_pos e2,hz,<-e2]
    split
    ·exact ci
    ·exact ck.trans cki
   ·rw[if_neg e1,if_neg e2];exact h.con j hj
 ·rw[Q3x _ _ _ hk',Q3x _ _ _ hi',Q1A _ _ _ _ hi',if_neg (by omega),hz]
  split<;>omega
structure Rest (n:Nat)(R:Nat->Nat->Bool)(l:List Int):Prop extends Lab n R l where
 eq:∀i k,i<n->k<i->R k i=true->l.getD i 0=l.getD k 0
theorem Rest.con_eq {n:Nat}{R:Nat->Nat->Bool}{l:List Int}(h:Rest n R l)(hR:∀i j,R i j=R j i){i j:Nat}(c:Cn n R i j):l.getD i 0=l.getD j 0:=by
 induction c with
 |refl _=>rfl
 | @step j k c hk hr ih=>
  rw[ih]
  rcases Nat.lt_trichotomy j k with hlt|rfl|hlt
  ·exact(h.eq k j hk hlt hr).symm
  ·rfl
  ·exact h.eq j k c.lt.2 hlt ((hR k j).trans hr)
theorem Rest.low {n:Nat}{R:Nat->Nat->Bool}{l:List Int}(h:Rest n R l)(hR:∀i j,R i j=R j i){i:Nat}(hi:i<n):l.getD (l.getD i 0).toNat 0=l.getD i 0:=h.con_eq hR (h.con i hi)
theorem Rest.cn_iff {n:Nat}{R:Nat->Nat->Bool}{l:List Int}(h:Rest n R l)(hR:∀i j,R i j=R j i){i j:Nat}(hi:i<n)(hj:j<n):Cn n R i j ↔ l.getD j 0=l.getD i 0:=
 ⟨λc=>(h.con_eq hR c).symm,λe=>by
  have h1:=h.con i hi
  have h2:=h.con j hj
  rw[e]at h2
  exact(h1.symm hR).trans h2⟩
def UI (x:Int)(out:List Int):Nat->Nat
 |0=>0
 |k+1=>bif decide (x<out.getD k 0)then UI x out k else k+1
theorem Q3y (x:Int)(out:List Int):∀k,UI x out k<=k
 |0=>Nat.le_refl _
 |k+1=>by
  have:=Q3y x out k
  unfold UI
  cases decide (x<out.getD k 0)<;>simp only[cond_true,cond_false]<;>omega
theorem Q71 (x:Int)(out:List Int):∀k j,UI x out k<=j->j<k->x<out.getD j 0
 |0,j,_,h=>by omega
 |k+1,j,h,h'=>by
  unfold UI at h
  cases hd:decide (x<out.getD k 0)with
  |false=>rw[hd,cond_false]at h;omega
  |true=>
   rw[hd,cond_true]at h
   by_cases e:j=k
   ·subst e;exact of_decide_eq_true hd
   ·exact Q71 x out k j h (by omega)
theorem Q72 (x:Int)(out:List Int):∀k,0<UI x out k->¬x<out.getD (UI x out k-1) 0
 |0,h=>by simp[UI]at h
 |k+1,h=>by
  unfold UI at h ⊢
  cases hd:decide (x<out.getD k 0)with
  |false=>
   rw[cond_false,Nat.add_sub_cancel]
   exact of_decide_eq_false hd
  |true=>
   rw[hd,cond_true]at h
   rw[cond_true]
   exact Q72 x out k h
def Uo (out:List Int)(x:Int):List Int:=out.take (UI x out out.length)++x::out.drop (UI x out out.length)
theorem Q4V (out:List Int)(x:Int):(Uo out x).length=out.length+1:=by
 have:=Q3y x out out.length
 unfold Uo
 simp only[List.length_append,List.length_take,List.length_cons,List.length_drop]
 omega
theorem Q4W {out:List Int}{x y:Int}:y∈Uo out x ↔ y=x\/y∈out:=by
 unfold Uo
 have:y∈out ↔ y∈out.take (UI x out out.length)\/y∈out.drop (UI x out out.length):=by
  rw[<-List.mem_append,List.take_append_drop]
 rw[this]
 simp only[List.mem_append,List.mem_cons]
 constructor
 ·rintro(h|h|h)
  ·exact .inr (.inl h)
  ·exact .inl h
  ·exact .inr (.inr h)
 ·rintro(h|h|h)
  ·exact .inr (.inl h)
  ·exact .inl h
  ·exact .inr (.inr h)
theorem Qc7 {l:List Int}(h:Asc l){i j:Nat}(hij:i<j)(hj:j<l.length):l.getD i 0<l.getD j 0:=by
 have:=List.pairwise_iff_getElem.1 h i j (by omega) hj hij
 simpa[List.getD,hj,show i<l.length by omega]using this
theorem Q4X {out:List Int}{x:Int}(h:Asc out)(hx:x ∉ out):Asc (Uo out x):=by
 have hp:=Q3y x out out.length
 have mem_get:∀{y:Int} {l:List Int},y∈l->∃j,j<l.length/\l.getD j 0=y:=λ{y l} hy=>by
  obtain⟨j,hj,e⟩:=List.getElem_of_mem hy
  exact⟨j,hj,by simp[List.getD,hj,e]⟩
 have hlo:∀y∈out.take (UI x out out.length),y<x:=λy hy=>by
  obtain⟨j,hj,e⟩:=mem_get hy
  rw[List.length_take]at hj
  have e2:out.getD j 0=y:=by
   rw[<-e,List.getD_eq_getElem?_getD,List.getD_eq_getElem?_getD,List.getElem?_take,if_pos (by omega)]
  have h1:=Q72 x out out.length (by omega)
  have hne:x≠y:=λe3=>hx (e3▸List.mem_of_mem_take hy)
  by_cases e4:j=UI x out out.length-1
  ·rw[<-e4,e2]at h1;omega
  ·have:=Qc7 h (i:=j) (j:=UI x out out.length-1) (by omega) (by omega)
   omega
 have hhi:∀y∈out.drop (UI x out out.length),x<y:=λy hy=>by
  obtain⟨j,hj,e⟩:=mem_get hy
  rw[List.length_drop]at hj
  have e2:out.getD (UI x out out.length+j) 0=y:=by
   rw[<-e,List.getD_eq_getElem?_getD,List.getD_eq_getElem?_getD,List.getElem?_drop]
  rw[<-e2]
  exact Q71 x out out.length _ (by omega) (by omega)
 unfold Uo
 refine List.pairwise_append.2 ⟨h.sublist (List.take_sublist _ _),List.pairwise_cons.2 ⟨hhi,h.sublist (List.drop_sublist _ _)⟩,λa ha b hb=>?_⟩
 have h1:=hlo a ha
 rcases List.mem_cons.1 hb with rfl|hb
 ·exact h1
 ·have:=hhi b hb;omega
theorem Qbz:∀(xs out:List Int),Asc out->(out++xs).Nodup->Asc (xs.foldl Uo out)/\(xs.foldl Uo out).length=out.length+xs.length/\∀y,y∈xs.foldl Uo out ↔ y∈out\/y∈xs
 |[],out,h,_=>⟨h,rfl,λy=>by simp⟩
 |x::xs,out,h,hn=>by
  have hx:x ∉ out:=λhm=>(List.nodup_append.1 hn).2.2 x hm x List.mem_cons_self rfl
  have hn':(Uo out x++xs).Nodup:=by
   have h1:=List.nodup_append.1 hn
   have h2:=List.nodup_cons.1 h1.2.1
   refine List.nodup_append.2 ⟨?_,h2.2,λa ha b hb e=>?_⟩
   ·exact(Q4X h hx).imp λ{a b} hab=>by omega
   ·rcases Q4W.1 ha with rfl|ha
    ·exact h2.1 (e▸hb)
    ·exact h1.2.2 a ha b (List.mem_cons_of_mem _ hb) e
  obtain⟨k1,k2,k3⟩:=Qbz xs (Uo out x) (Q4X h hx) hn'
  refine⟨k1,by rw[List.foldl_cons,k2,Q4V,List.length_cons];omega,λy=>?_⟩
  rw[List.foldl_cons,k3,Q4W,List.mem_cons]
  constructor
  ·rintro((h|h)|h)
   ·exact .inr (.inl h)
   ·exact .inl h
   ·exact .inr (.inr h)
  ·rintro(h|h|h)
   ·exact .inl (.inr h)
   ·exact .inl (.inl h)
   ·exact .inr h
def atI (x:Int)(out rest:List Int)(j:Nat):List Int:=out.take j++x::(out.drop j++rest)
theorem Gy (x:Int)(out rest:List Int)(j:Nat)(h:j<out.length) :
  atI x out rest (j+1)=out.take j++out[j]::x::(out.drop (j+1)++rest)/\atI x out rest j=out.take j++x::out[j]::(out.drop (j+1)++rest):=by
 unfold atI
 constructor
 ·rw[<-List.take_append_getElem h,List.append_assoc];rfl
 ·rw[List.drop_eq_getElem_cons h];rfl
theorem Qb9 (x:Int)(out rest:List Int)(j:Nat)(h:j<=out.length):(atI x out rest j).length=out.length+1+rest.length:=by
 unfold atI
 simp only[List.length_append,List.length_take,List.length_cons,List.length_drop]
 omega
theorem Qba (x:Int)(out rest:List Int)(j:Nat)(h:j<out.length):(atI x out rest (j+1)).getD (j+1) 0=x/\(atI x out rest (j+1)).getD j 0=out[j]:=by
 have hl:(out.take j).length=j:=by rw[List.length_take];omega
 rw[(Gy x out rest j h).1]
 constructor
 ·rw[List.getD_eq_getElem?_getD,List.getElem?_append_right (by omega),hl,show j+1-j=1 by omega];rfl
 ·rw[List.getD_eq_getElem?_getD,List.getElem?_append_right (by omega),hl,Nat.sub_self];rfl
theorem Qaa (x:Int)(out rest:List Int)(j:Nat)(h:j<out.length):((atI x out rest (j+1)).set (j+1) out[j]).set j x=atI x out rest j:=by
 have hl:(out.take j).length=j:=by rw[List.length_take];omega
 rw[(Gy x out rest j h).1,(Gy x out rest j h).2,List.set_append_right _ _ (by omega),hl,show j+1-j=1 by omega,List.set_append_right _ _ (by omega),hl,Nat.sub_self]
 rfl
end Go.Proofs.YtoojiikgbopeiaaGreatDoor
end
