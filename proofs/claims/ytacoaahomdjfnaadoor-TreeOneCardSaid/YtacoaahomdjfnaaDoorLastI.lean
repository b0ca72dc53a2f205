/- The kit's library contract Lays.n148 laid at this translation's numbers (written by the kit's lay-plain.mjs, turned by a program of ours). No condition. -/
import Derived.Shelf.SlGeneric
import Derived.Shelf.Strings.LastIndexAll
import Derived.Ground.NamesProg
import Derived.Test.YtacoaahomdjfnaaDoorProg
namespace Go.Proofs.YtacoaahomdjfnaaDoor
open Go.Shelf
def laysLastI_ren : Go.Shelf.Ren := ⟨fun | 148 => 10 | 222 => 22 | 223 => 23 | 269 => 34 | n => n, fun | 9 => 9 | 3 => 3 | 4 => 4 | 5 => 5 | 146 => 68 | 51 => 67 | 46 => 76 | n => n, fun | n => n⟩
theorem laysLastI : Go.Proofs.Lays.n148 Tryd.prog laysLastI_ren := {
  mixed := by kernel_rfl
  f148 := Tryd.func10.trans (congrArg some (by kernel_rfl))
  f222 := Tryd.func22.trans (congrArg some (by kernel_rfl))
  f223 := Tryd.func23.trans (congrArg some (by kernel_rfl))
  f269 := Tryd.func34.trans (congrArg some (by kernel_rfl))
  t3 := Tryd.underlying3
  a3 := Tryd.isAgg3
  z3 := Tryd.sizeOf3
  v3 := Tryd.zeroValue3
  t4 := Tryd.underlying4
  a4 := Tryd.isAgg4
  z4 := Tryd.sizeOf4
  v4 := Tryd.zeroValue4
  t5 := Tryd.underlying5
  a5 := Tryd.isAgg5
  z5 := Tryd.sizeOf5
  v5 := Tryd.zeroValue5
  t9 := Tryd.underlying9
  a9 := Tryd.isAgg9
  z9 := Tryd.sizeOf9
  v9 := Tryd.zeroValue9
  t46 := Tryd.underlying76
  a46 := Tryd.isAgg76
  z46 := Tryd.sizeOf76
  v46 := Tryd.zeroValue76
  t51 := Tryd.underlying67
  a51 := Tryd.isAgg67
  z51 := Tryd.sizeOf67
  v51 := Tryd.zeroValue67
  t146 := Tryd.underlying68
  a146 := Tryd.isAgg68
  z146 := Tryd.sizeOf68
  v146 := Tryd.zeroValue68 }
end Go.Proofs.YtacoaahomdjfnaaDoor
