/- The kit's library contract Lays.n103 laid at this translation's numbers (written by the kit's lay-plain.mjs, turned by a program of ours). No condition. -/
import Derived.Shelf.SlGeneric
import Derived.Shelf.Small.Wraps
import Derived.Ground.NamesProg
import Derived.Test.YtacoaahomdjfnaaDoorProg
namespace Go.Proofs.YtacoaahomdjfnaaDoor
open Go.Shelf
def laysCutPreI_ren : Go.Shelf.Ren := ⟨fun | 103 => 39 | 210 => 46 | 206 => 38 | n => n, fun | 9 => 9 | 4 => 4 | 24 => 72 | 3 => 3 | n => n, fun | n => n⟩
theorem laysCutPreI : Go.Proofs.Lays.n103 Tryd.prog laysCutPreI_ren := {
  mixed := by kernel_rfl
  f103 := Tryd.func39.trans (congrArg some (by kernel_rfl))
  f206 := Tryd.func38.trans (congrArg some (by kernel_rfl))
  f210 := Tryd.func46.trans (congrArg some (by kernel_rfl))
  t3 := Tryd.underlying3
  a3 := Tryd.isAgg3
  z3 := Tryd.sizeOf3
  v3 := Tryd.zeroValue3
  t4 := Tryd.underlying4
  a4 := Tryd.isAgg4
  z4 := Tryd.sizeOf4
  v4 := Tryd.zeroValue4
  t9 := Tryd.underlying9
  a9 := Tryd.isAgg9
  z9 := Tryd.sizeOf9
  v9 := Tryd.zeroValue9
  t24 := Tryd.underlying72
  a24 := Tryd.isAgg72
  z24 := Tryd.sizeOf72
  v24 := Tryd.zeroValue72 }
end Go.Proofs.YtacoaahomdjfnaaDoor
