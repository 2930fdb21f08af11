import Derived.Shelf.Strings.Search1
import Derived.Shelf.Strings.Search2
import Derived.Shelf.Strings.Search3
import Derived.Test.YtaocfjifacnokaaProg
namespace Go.Proofs
open Go.Shelf
def Try.lays144_ren:Go.Shelf.Ren:=⟨fun | 144=>70 | 143=>81 | 219=>88 | 217=>90 | 225=>91 | 224=>92 | 267=>93 | 266=>94 | 314=>95 | n=>n,fun | 9=>9 | 4=>4 | 3=>3 | 5=>5 | 46=>104 | 146=>130 | 51=>129 | n=>n,fun | 1=>0 | n=>n⟩
theorem Try.lays144:Go.Proofs.Lays.n144 Try.prog Try.lays144_ren:={
 mixed:=by kernel_rfl
 f143:=Try.func81.trans (congrArg some (by kernel_rfl))
 f144:=Try.func70.trans (congrArg some (by kernel_rfl))
 f217:=Try.func90.trans (congrArg some (by kernel_rfl))
 f219:=Try.func88.trans (congrArg some (by kernel_rfl))
 f224:=Try.func92.trans (congrArg some (by kernel_rfl))
 f225:=Try.func91.trans (congrArg some (by kernel_rfl))
 f266:=Try.func94.trans (congrArg some (by kernel_rfl))
 f267:=Try.func93.trans (congrArg some (by kernel_rfl))
 f314:=Try.func95.trans (congrArg some (by kernel_rfl))
 t3:=Try.underlying3
 a3:=Try.isAgg3
 z3:=Try.sizeOf3
 v3:=Try.zeroValue3
 t4:=Try.underlying4
 a4:=Try.isAgg4
 z4:=Try.sizeOf4
 v4:=Try.zeroValue4
 t5:=Try.underlying5
 a5:=Try.isAgg5
 z5:=Try.sizeOf5
 v5:=Try.zeroValue5
 t9:=Try.underlying9
 a9:=Try.isAgg9
 z9:=Try.sizeOf9
 v9:=Try.zeroValue9
 t46:=Try.underlying104
 a46:=Try.isAgg104
 z46:=Try.sizeOf104
 v46:=Try.zeroValue104
 t51:=Try.underlying129
 a51:=Try.isAgg129
 z51:=Try.sizeOf129
 v51:=Try.zeroValue129
 t146:=Try.underlying130
 a146:=Try.isAgg130
 z146:=Try.sizeOf130
 v146:=Try.zeroValue130
 g1:=by kernel_rfl }
open Go.RowKit Go.Lib in
theorem Try.strings_Contains (s sub:ByteArray) (m:Int) (w:World) (hs:s.size < 4294967281) (hm:w.cell? ⟨0,0,none⟩ = some (.int .i64 m)) :
  Calls Try.prog 70 #[.string s,.string sub] w fun e w'=>e = .returned (.bool (Lib.contains s.data.toList sub.data.toList)) ∧ w' = w:=Any.strings_Contains Try.lays144 s sub m w hs hm
end Go.Proofs
