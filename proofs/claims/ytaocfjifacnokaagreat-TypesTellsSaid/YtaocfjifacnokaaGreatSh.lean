import Derived.Shelf.Strings.Search1
import Derived.Shelf.Strings.Search2
import Derived.Shelf.Strings.Search3
import Derived.Test.YtaocfjifacnokaaGreatProg
namespace Go.Proofs
open Go.Shelf
def Tryz.By:Go.Shelf.Ren:=⟨fun | 144=>96 | 143=>114 | 219=>124 | 217=>126 | 225=>127 | 224=>128 | 267=>129 | 266=>130 | 314=>131 | n=>n,fun | 9=>9 | 4=>4 | 3=>3 | 5=>5 | 46=>109 | 146=>140 | 51=>139 | n=>n,fun | 1=>0 | n=>n⟩
theorem Tryz.JS:Go.Proofs.Lays.n144 Tryz.prog Tryz.By:={
 mixed:=by kernel_rfl
 f143:=Tryz.func114.trans (congrArg some (by kernel_rfl))
 f144:=Tryz.func96.trans (congrArg some (by kernel_rfl))
 f217:=Tryz.func126.trans (congrArg some (by kernel_rfl))
 f219:=Tryz.func124.trans (congrArg some (by kernel_rfl))
 f224:=Tryz.func128.trans (congrArg some (by kernel_rfl))
 f225:=Tryz.func127.trans (congrArg some (by kernel_rfl))
 f266:=Tryz.func130.trans (congrArg some (by kernel_rfl))
 f267:=Tryz.func129.trans (congrArg some (by kernel_rfl))
 f314:=Tryz.func131.trans (congrArg some (by kernel_rfl))
 t3:=Tryz.underlying3
 a3:=Tryz.isAgg3
 z3:=Tryz.sizeOf3
 v3:=Tryz.zeroValue3
 t4:=Tryz.underlying4
 a4:=Tryz.isAgg4
 z4:=Tryz.sizeOf4
 v4:=Tryz.zeroValue4
 t5:=Tryz.underlying5
 a5:=Tryz.isAgg5
 z5:=Tryz.sizeOf5
 v5:=Tryz.zeroValue5
 t9:=Tryz.underlying9
 a9:=Tryz.isAgg9
 z9:=Tryz.sizeOf9
 v9:=Tryz.zeroValue9
 t46:=Tryz.underlying109
 a46:=Tryz.isAgg109
 z46:=Tryz.sizeOf109
 v46:=Tryz.zeroValue109
 t51:=Tryz.underlying139
 a51:=Tryz.isAgg139
 z51:=Tryz.sizeOf139
 v51:=Tryz.zeroValue139
 t146:=Tryz.underlying140
 a146:=Tryz.isAgg140
 z146:=Tryz.sizeOf140
 v146:=Tryz.zeroValue140
 g1:=by kernel_rfl }
open Go.RowKit Go.Lib in
theorem Tryz.strings_Contains (s sub:ByteArray) (m:Int) (w:World) (hs:s.size < 4294967281) (hm:w.cell? ⟨0,0,none⟩ = some (.int .i64 m)) :
  Calls Tryz.prog 96 #[.string s,.string sub] w fun e w'=>e = .returned (.bool (Lib.contains s.data.toList sub.data.toList)) ∧ w' = w:=Any.strings_Contains Tryz.JS s sub m w hs hm
end Go.Proofs
