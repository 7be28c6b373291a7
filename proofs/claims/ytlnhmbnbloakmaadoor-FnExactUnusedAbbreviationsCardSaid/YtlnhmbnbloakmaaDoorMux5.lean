/-
 DERIVED: THE SHELF's CONTRACTS AT THIS DUMP,IN PLAIN WORDS (tools/lay-plain.mjs out of 'TrydShelf.lean',which tools/lay-shelf.mjs wrote): THE SAME DECLARATIONS UNDER THE SAME NAMES: 'import','namespace','open','def','theorem' AND NOTHING ELSE: no command of the shelf's: FOR A HAND-IN. Each laying: the table of numbers ('.._ren') and one theorem,a field a fact of the dump's own or the kernel's comparison;each contract: ONE APPLICATION.
-/
import Derived.Shelf.Strings.Trim
import Derived.Shelf.Small.Utf8
import Derived.Shelf.Small.Strs
import Derived.Shelf.Utf8.RuneCount
import Derived.Shelf.Strings.Search1
import Derived.Shelf.Strings.Search2
import Derived.Shelf.Strings.Search3
import Derived.Shelf.Strings.Count
import Derived.Shelf.LaysM
import Derived.Shelf.Strings.Shaped
import Derived.Shelf.Strings.Split
import Derived.Shelf.Strings.SplitShaped
import Derived.Shelf.Unicode.Decode
import Derived.Shelf.Strings.Runes
import Derived.Shelf.Strings.RuneCount
import Derived.Shelf.Strings.AsciiSet
import Derived.Shelf.Strings.Explode
import Derived.Shelf.Unicode.DecodeSlow
import Derived.Shelf.Unicode.DecodeAny
import Derived.Shelf.Unicode.DecodeLast
import Derived.Ground.Names2Prog
import Derived.Shelf.Slices.Clone
import Derived.Ground.SlgnProg
import Derived.Shelf.SlicesE.Clone
import Derived.Test.YtlnhmbnbloakmaaDoorProg
set_option linter.unusedVariables false
set_option linter.unusedSimpArgs false
set_option maxRecDepth 100000
section
namespace Go.Proofs
open Go.Shelf
def Tryd.lays160_ren:Go.Shelf.Ren:=⟨fun|160=>62|232=>67|231=>66|227=>68|234=>70|233=>69|236=>72|235=>71|228=>76|271=>79|151=>78|197=>77|120=>85|152=>84|260=>83|137=>90|119=>91|224=>88|225=>87|217=>86|266=>92|n=>n,fun|9=>9|4=>4|3=>3|5=>5|117=>73|116=>72|0=>0|124=>76|21=>21|105=>79|46=>86|119=>87|139=>90|138=>89|n=>n,fun|3=>1|4=>2|n=>n⟩
theorem Tryd.lays160:Go.Proofs.Lays.n160 Tryd.prog Tryd.lays160_ren:={
 mixed:=by kernel_rfl
 f119:=Tryd.func91.trans (congrArg some (by kernel_rfl))
 f120:=Tryd.func85.trans (congrArg some (by kernel_rfl))
 f137:=Tryd.func90.trans (congrArg some (by kernel_rfl))
 f151:=Tryd.func78.trans (congrArg some (by kernel_rfl))
 f152:=Tryd.func84.trans (congrArg some (by kernel_rfl))
 f160:=Tryd.func62.trans (congrArg some (by kernel_rfl))
 f197:=Tryd.func77.trans (congrArg some (by kernel_rfl))
 f217:=Tryd.func86.trans (congrArg some (by kernel_rfl))
 f224:=Tryd.func88.trans (congrArg some (by kernel_rfl))
 f225:=Tryd.func87.trans (congrArg some (by kernel_rfl))
 f227:=Tryd.func68.trans (congrArg some (by kernel_rfl))
 f228:=Tryd.func76.trans (congrArg some (by kernel_rfl))
 f231:=Tryd.func66.trans (congrArg some (by kernel_rfl))
 f232:=Tryd.func67.trans (congrArg some (by kernel_rfl))
 f233:=Tryd.func69.trans (congrArg some (by kernel_rfl))
 f234:=Tryd.func70.trans (congrArg some (by kernel_rfl))
 f235:=Tryd.func71.trans (congrArg some (by kernel_rfl))
 f236:=Tryd.func72.trans (congrArg some (by kernel_rfl))
 f260:=Tryd.func83.trans (congrArg some (by kernel_rfl))
 f266:=Tryd.func92.trans (congrArg some (by kernel_rfl))
 f271:=Tryd.func79.trans (congrArg some (by kernel_rfl))
 t0:=Tryd.underlying0
 a0:=Tryd.isAgg0
 z0:=Tryd.sizeOf0
 v0:=Tryd.zeroValue0
 t3:=Tryd.underlying3
 a3:=Tryd.isAgg3
 z3:=Tryd.sizeOf3
 v3:=Tryd.zeroValue3
 t4:=Tryd.underlying4
 a4:=Tryd.isAgg4
 z4:=Tryd.sizeOf4
 v4:=Tryd.zeroValue4
 t5:=Tryd.underlying5
 a5:=Tryd.isAgg5
 z5:=Tryd.sizeOf5
 v5:=Tryd.zeroValue5
 t9:=Tryd.underlying9
 a9:=Tryd.isAgg9
 z9:=Tryd.sizeOf9
 v9:=Tryd.zeroValue9
 t21:=Tryd.underlying21
 a21:=Tryd.isAgg21
 z21:=Tryd.sizeOf21
 v21:=Tryd.zeroValue21
 t46:=Tryd.underlying86
 a46:=Tryd.isAgg86
 z46:=Tryd.sizeOf86
 v46:=Tryd.zeroValue86
 t105:=Tryd.underlying79
 a105:=Tryd.isAgg79
 z105:=Tryd.sizeOf79
 v105:=Tryd.zeroValue79
 t116:=Tryd.underlying72
 a116:=Tryd.isAgg72
 z116:=Tryd.sizeOf72
 t117:=Tryd.underlying73
 a117:=Tryd.isAgg73
 z117:=Tryd.sizeOf73
 v117:=Tryd.zeroValue73
 t119:=Tryd.underlying87
 a119:=Tryd.isAgg87
 z119:=Tryd.sizeOf87
 t124:=Tryd.underlying76
 a124:=Tryd.isAgg76
 z124:=Tryd.sizeOf76
 v124:=Tryd.zeroValue76
 t138:=Tryd.underlying89
 a138:=Tryd.isAgg89
 z138:=Tryd.sizeOf89
 v138:=Tryd.zeroValue89
 t139:=Tryd.underlying90
 a139:=Tryd.isAgg90
 z139:=Tryd.sizeOf90
 v139:=Tryd.zeroValue90
 g3:=by kernel_rfl
 g4:=by kernel_rfl}
open Go.RowKit in
theorem Tryd.strings_Trim_one (s:ByteArray)(c:UInt8)(hc:c.toNat<128)(w:World)(hs:s.size<=9223372036854775807) :
  Calls Tryd.prog 62 #[.string s,.string ⟨#[c]⟩] w λe w'=>e= .returned (.string ⟨(Lib.trimB s.data.toList c).toArray⟩)/\(w'=w\/w'=w.drew):=Any.strings_Trim_one Tryd.lays160 s c hc w hs
def Tryd.lays221_ren:Go.Shelf.Ren:=⟨fun|221=>63|268=>73|138=>74|143=>75|195=>80|197=>77|218=>81|219=>82|260=>83|217=>86|225=>87|224=>88|267=>89|266=>92|314=>93|n=>n,fun|9=>9|3=>3|31=>23|4=>4|0=>0|105=>79|21=>21|5=>5|46=>86|119=>87|139=>90|138=>89|146=>93|51=>92|n=>n,fun|1=>0|3=>1|4=>2|n=>n⟩
def Tryd.lays146_ren:Go.Shelf.Ren:=⟨fun|146=>52|221=>63|268=>73|138=>74|143=>75|195=>80|197=>77|218=>81|219=>82|260=>83|217=>86|225=>87|224=>88|267=>89|266=>92|314=>93|n=>n,fun|9=>9|31=>23|3=>3|4=>4|0=>0|105=>79|21=>21|5=>5|46=>86|119=>87|139=>90|138=>89|146=>93|51=>92|n=>n,fun|1=>0|3=>1|4=>2|n=>n⟩
theorem Tryd.lays146:Go.Proofs.Lays.n146 Tryd.prog Tryd.lays146_ren:={
 mixed:=by kernel_rfl
 f138:=Tryd.func74.trans (congrArg some (by kernel_rfl))
 f143:=Tryd.func75.trans (congrArg some (by kernel_rfl))
 f146:=Tryd.func52.trans (congrArg some (by kernel_rfl))
 f195:=Tryd.func80.trans (congrArg some (by kernel_rfl))
 f197:=Tryd.func77.trans (congrArg some (by kernel_rfl))
 f217:=Tryd.func86.trans (congrArg some (by kernel_rfl))
 f218:=Tryd.func81.trans (congrArg some (by kernel_rfl))
 f219:=Tryd.func82.trans (congrArg some (by kernel_rfl))
 f221:=Tryd.func63.trans (congrArg some (by kernel_rfl))
 f224:=Tryd.func88.trans (congrArg some (by kernel_rfl))
 f225:=Tryd.func87.trans (congrArg some (by kernel_rfl))
 f260:=Tryd.func83.trans (congrArg some (by kernel_rfl))
 f266:=Tryd.func92.trans (congrArg some (by kernel_rfl))
 f267:=Tryd.func89.trans (congrArg some (by kernel_rfl))
 f268:=Tryd.func73.trans (congrArg some (by kernel_rfl))
 f314:=Tryd.func93.trans (congrArg some (by kernel_rfl))
 t0:=Tryd.underlying0
 a0:=Tryd.isAgg0
 z0:=Tryd.sizeOf0
 v0:=Tryd.zeroValue0
 t3:=Tryd.underlying3
 a3:=Tryd.isAgg3
 z3:=Tryd.sizeOf3
 v3:=Tryd.zeroValue3
 t4:=Tryd.underlying4
 a4:=Tryd.isAgg4
 z4:=Tryd.sizeOf4
 v4:=Tryd.zeroValue4
 t5:=Tryd.underlying5
 a5:=Tryd.isAgg5
 z5:=Tryd.sizeOf5
 v5:=Tryd.zeroValue5
 t9:=Tryd.underlying9
 a9:=Tryd.isAgg9
 z9:=Tryd.sizeOf9
 v9:=Tryd.zeroValue9
 t21:=Tryd.underlying21
 a21:=Tryd.isAgg21
 z21:=Tryd.sizeOf21
 v21:=Tryd.zeroValue21
 t31:=Tryd.underlying23
 a31:=Tryd.isAgg23
 z31:=Tryd.sizeOf23
 v31:=Tryd.zeroValue23
 t46:=Tryd.underlying86
 a46:=Tryd.isAgg86
 z46:=Tryd.sizeOf86
 v46:=Tryd.zeroValue86
 t51:=Tryd.underlying92
 a51:=Tryd.isAgg92
 z51:=Tryd.sizeOf92
 v51:=Tryd.zeroValue92
 t105:=Tryd.underlying79
 a105:=Tryd.isAgg79
 z105:=Tryd.sizeOf79
 v105:=Tryd.zeroValue79
 t119:=Tryd.underlying87
 a119:=Tryd.isAgg87
 z119:=Tryd.sizeOf87
 t138:=Tryd.underlying89
 a138:=Tryd.isAgg89
 z138:=Tryd.sizeOf89
 v138:=Tryd.zeroValue89
 t139:=Tryd.underlying90
 a139:=Tryd.isAgg90
 z139:=Tryd.sizeOf90
 v139:=Tryd.zeroValue90
 t146:=Tryd.underlying93
 a146:=Tryd.isAgg93
 z146:=Tryd.sizeOf93
 v146:=Tryd.zeroValue93
 g1:=by kernel_rfl
 g3:=by kernel_rfl
 g4:=by kernel_rfl}
open Go.RowKit Go.Lib in
theorem Tryd.strings_Split (s sep:ByteArray)(m:Int)(w:World)(hs:s.size<4294967281)(hm:w.cell? ⟨0,0,none⟩=some (.int .i64 m))(h1:1<=sep.size) :
  Calls Tryd.prog 52 #[.string s,.string sep] w λe w'=>
   e= .returned (.slice (some ⟨w.heap.size,0,none⟩) (Lib.countB s sep+1) (Lib.countB s sep+1))/\w'=w.alloc (.cells ((Lib.splitB sep 0 (Lib.countB s sep) s).map Value.string).toArray 9):=Any.strings_Split Tryd.lays146 (by kernel_rfl) s sep m w hs hm h1
def Tryd.laysNm216_ren:Go.Shelf.Ren:=⟨fun|16=>41|n=>n,fun|24=>23|9=>9|4=>4|n=>n,fun|n=>n⟩
theorem Tryd.laysNm216:Go.Proofs.Lays2.n16 Tryd.prog Tryd.laysNm216_ren:={
 mixed:=by kernel_rfl
 f16:=Tryd.func41.trans (congrArg some (by kernel_rfl))
 t4:=Tryd.underlying4
 a4:=Tryd.isAgg4
 z4:=Tryd.sizeOf4
 v4:=Tryd.zeroValue4
 t9:=Tryd.underlying9
 a9:=Tryd.isAgg9
 z9:=Tryd.sizeOf9
 v9:=Tryd.zeroValue9
 t24:=Tryd.underlying23
 a24:=Tryd.isAgg23
 z24:=Tryd.sizeOf23
 v24:=Tryd.zeroValue23
 i9:=by kernel_rfl}
open Go.RowKit Go.Lib in
theorem Tryd.slices_Clone_string (b off n c:Nat)(zs:List ByteArray)(w:World)(hz:n<=zs.length)(hbig:n*16<=140737488355328)(hc:∀j,j<zs.length->w.cell? ⟨b,off+j,none⟩=some (.string (zs.getD j ByteArray.empty))) :
  Calls Tryd.prog 41 #[.slice (some ⟨b,off,none⟩) n c] w λe w'=>∃v',e= .returned v'/\w'.ownsRow w.heap.size 9 1 v' n ((zs.take n).map (Value.string))/\v'≠ .slice none 0 0/\Below w.heap.size w w':=Any.slices_Clone_string Tryd.laysNm216 b off n c zs w hz hbig hc
open Go.RowKit Go.Lib in
theorem Tryd.slices_Clone_string_nil (n c:Nat)(w:World) :
  Calls Tryd.prog 41 #[.slice none n c] w λe w'=>e= .returned (.slice none 0 0)/\w'=w:=Any.slices_Clone_string_nil Tryd.laysNm216 n c w
open Go.RowKit Go.Lib in
theorem Tryd.slices_Clone_string_zero (a:Addr)(c:Nat)(w:World) :
  Calls Tryd.prog 41 #[.slice (some a) 0 c] w λe w'=>∃v',e= .returned v'/\w'.ownsRow w.heap.size 9 1 v' 0 []/\v'≠ .slice none 0 0/\Below w.heap.size w w':=Any.slices_Clone_string_zero Tryd.laysNm216 a c w
end Go.Proofs
end
