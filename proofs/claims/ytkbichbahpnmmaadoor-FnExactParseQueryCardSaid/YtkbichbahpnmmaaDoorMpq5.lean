/-
 DERIVED: THE SHELF's CONTRACTS AT THIS DUMP,IN PLAIN WORDS (tools/lay-plain.mjs out of 'TrydShelf.lean',which tools/lay-shelf.mjs wrote): THE SAME DECLARATIONS UNDER THE SAME NAMES: 'import','namespace','open','def','theorem' AND NOTHING ELSE: no command of the shelf's: FOR A HAND-IN. Each laying: the table of numbers ('.._ren') and one theorem,a field a fact of the dump's own or the kernel's comparison;each contract: ONE APPLICATION.
-/
import Derived.Shelf.Small.Utf8
import Derived.Shelf.Small.Bits
import Derived.Shelf.Small.Strs
import Derived.Shelf.Strconv.Itoa0
import Derived.Shelf.Strings.Search1
import Derived.Shelf.Strings.Search2
import Derived.Shelf.Strings.Cut
import Derived.Shelf.LaysM
import Derived.Shelf.Strings.Shaped
import Derived.Shelf.Strings.Runes
import Derived.Shelf.Strings.IndexAny
import Derived.Shelf.Strings.AsciiSet
import Derived.Shelf.Strings.IndexAnyAll
import Derived.Shelf.Slices.CompactS
import Derived.Shelf.Slices.Cells
import Derived.Test.YtkbichbahpnmmaaDoorProg
set_option linter.unusedVariables false
set_option linter.unusedSimpArgs false
set_option maxRecDepth 100000
section
namespace Go.Proofs
open Go.Shelf
def Tryd.lays219_ren:Go.Shelf.Ren:=⟨fun|219=>82|217=>92|225=>81|224=>80|267=>93|266=>95|314=>96|n=>n,fun|9=>9|3=>3|4=>4|5=>5|46=>71|146=>109|51=>88|n=>n,fun|1=>1|n=>n⟩
def Tryd.lays145_ren:Go.Shelf.Ren:=⟨fun|145=>45|220=>59|219=>82|217=>92|225=>81|224=>80|267=>93|266=>95|314=>96|n=>n,fun|9=>9|4=>4|59=>66|3=>3|5=>5|46=>71|146=>109|51=>88|n=>n,fun|1=>1|n=>n⟩
theorem Tryd.lays145:Go.Proofs.Lays.n145 Tryd.prog Tryd.lays145_ren:={
 mixed:=by kernel_rfl
 f145:=Tryd.func45.trans (congrArg some (by kernel_rfl))
 f217:=Tryd.func92.trans (congrArg some (by kernel_rfl))
 f219:=Tryd.func82.trans (congrArg some (by kernel_rfl))
 f220:=Tryd.func59.trans (congrArg some (by kernel_rfl))
 f224:=Tryd.func80.trans (congrArg some (by kernel_rfl))
 f225:=Tryd.func81.trans (congrArg some (by kernel_rfl))
 f266:=Tryd.func95.trans (congrArg some (by kernel_rfl))
 f267:=Tryd.func93.trans (congrArg some (by kernel_rfl))
 f314:=Tryd.func96.trans (congrArg some (by kernel_rfl))
 t3:=Tryd.underlying3
 a3:=Tryd.isAgg3
 z3:=Tryd.sizeOf3
 v3:=Tryd.zeroValue3
 t4:=Tryd.underlying4
 a4:=Tryd.isAgg4
 z4:=Tryd.sizeOf4
 v4:=Tryd.zeroValue4
 t5:=Tryd.underlying5
 a5:=Tryd.isAgg5
 z5:=Tryd.sizeOf5
 v5:=Tryd.zeroValue5
 t9:=Tryd.underlying9
 a9:=Tryd.isAgg9
 z9:=Tryd.sizeOf9
 v9:=Tryd.zeroValue9
 t46:=Tryd.underlying71
 a46:=Tryd.isAgg71
 z46:=Tryd.sizeOf71
 v46:=Tryd.zeroValue71
 t51:=Tryd.underlying88
 a51:=Tryd.isAgg88
 z51:=Tryd.sizeOf88
 v51:=Tryd.zeroValue88
 t59:=Tryd.underlying66
 a59:=Tryd.isAgg66
 z59:=Tryd.sizeOf66
 v59:=Tryd.zeroValue66
 t146:=Tryd.underlying109
 a146:=Tryd.isAgg109
 z146:=Tryd.sizeOf109
 v146:=Tryd.zeroValue109
 g1:=by kernel_rfl}
open Go.RowKit Go.Lib in
theorem Tryd.strings_Cut (s sep:ByteArray)(m:Int)(w:World)(hs:s.size<4294967281)(hm:w.cell? ⟨1,0,none⟩=some (.int .i64 m)) :
  Calls Tryd.prog 45 #[.string s,.string sep] w λe w'=>e= .returned (.tuple #[.string ⟨(Lib.cut s.data.toList sep.data.toList).1.toArray⟩,.string ⟨(Lib.cut s.data.toList sep.data.toList).2.1.toArray⟩,.bool (Lib.cut s.data.toList sep.data.toList).2.2])/\∃n,w'=w.drewN n:=Any.strings_Cut Tryd.lays145 s sep m w hs hm
def Tryd.lays153_ren:Go.Shelf.Ren:=⟨fun|153=>44|152=>55|226=>56|227=>57|228=>58|137=>78|119=>79|224=>80|225=>81|217=>92|266=>95|n=>n,fun|9=>9|3=>3|4=>4|5=>5|21=>21|117=>77|116=>76|0=>0|46=>71|124=>97|n=>n,fun|n=>n⟩
theorem Tryd.lays153:Go.Proofs.Lays.n153 Tryd.prog Tryd.lays153_ren:={
 mixed:=by kernel_rfl
 f119:=Tryd.func79.trans (congrArg some (by kernel_rfl))
 f137:=Tryd.func78.trans (congrArg some (by kernel_rfl))
 f152:=Tryd.func55.trans (congrArg some (by kernel_rfl))
 f153:=Tryd.func44.trans (congrArg some (by kernel_rfl))
 f217:=Tryd.func92.trans (congrArg some (by kernel_rfl))
 f224:=Tryd.func80.trans (congrArg some (by kernel_rfl))
 f225:=Tryd.func81.trans (congrArg some (by kernel_rfl))
 f226:=Tryd.func56.trans (congrArg some (by kernel_rfl))
 f227:=Tryd.func57.trans (congrArg some (by kernel_rfl))
 f228:=Tryd.func58.trans (congrArg some (by kernel_rfl))
 f266:=Tryd.func95.trans (congrArg some (by kernel_rfl))
 t0:=Tryd.underlying0
 a0:=Tryd.isAgg0
 z0:=Tryd.sizeOf0
 v0:=Tryd.zeroValue0
 t3:=Tryd.underlying3
 a3:=Tryd.isAgg3
 z3:=Tryd.sizeOf3
 v3:=Tryd.zeroValue3
 t4:=Tryd.underlying4
 a4:=Tryd.isAgg4
 z4:=Tryd.sizeOf4
 v4:=Tryd.zeroValue4
 t5:=Tryd.underlying5
 a5:=Tryd.isAgg5
 z5:=Tryd.sizeOf5
 v5:=Tryd.zeroValue5
 t9:=Tryd.underlying9
 a9:=Tryd.isAgg9
 z9:=Tryd.sizeOf9
 v9:=Tryd.zeroValue9
 t21:=Tryd.underlying21
 a21:=Tryd.isAgg21
 z21:=Tryd.sizeOf21
 v21:=Tryd.zeroValue21
 t46:=Tryd.underlying71
 a46:=Tryd.isAgg71
 z46:=Tryd.sizeOf71
 v46:=Tryd.zeroValue71
 t116:=Tryd.underlying76
 a116:=Tryd.isAgg76
 z116:=Tryd.sizeOf76
 t117:=Tryd.underlying77
 a117:=Tryd.isAgg77
 z117:=Tryd.sizeOf77
 v117:=Tryd.zeroValue77
 t124:=Tryd.underlying97
 a124:=Tryd.isAgg97
 z124:=Tryd.sizeOf97
 v124:=Tryd.zeroValue97}
end Go.Proofs
end
