/- The kit's library contract Lays.n103 laid at this translation's numbers (written by the kit's lay-plain.mjs, turned by a program of ours). No condition. -/
import Derived.Shelf.SlGeneric
import Derived.Shelf.Small.Wraps
import Derived.Ground.NamesProg
import Derived.Test.YtncfmlifponjdaaGreatDoorProg
namespace Go.Proofs.YtncfmlifponjdaaGreatDoor
open Go.Shelf
def laysCutPreI_ren : Go.Shelf.Ren := ⟨fun | 103 => 85 | 210 => 97 | 206 => 104 | n => n, fun | 9 => 9 | 4 => 4 | 24 => 172 | 3 => 3 | n => n, fun | n => n⟩
theorem laysCutPreI : Go.Proofs.Lays.n103 Tryz.prog laysCutPreI_ren := {
  mixed := by kernel_rfl
  f103 := Tryz.func85.trans (congrArg some (by kernel_rfl))
  f206 := Tryz.func104.trans (congrArg some (by kernel_rfl))
  f210 := Tryz.func97.trans (congrArg some (by kernel_rfl))
  t3 := Tryz.underlying3
  a3 := Tryz.isAgg3
  z3 := Tryz.sizeOf3
  v3 := Tryz.zeroValue3
  t4 := Tryz.underlying4
  a4 := Tryz.isAgg4
  z4 := Tryz.sizeOf4
  v4 := Tryz.zeroValue4
  t9 := Tryz.underlying9
  a9 := Tryz.isAgg9
  z9 := Tryz.sizeOf9
  v9 := Tryz.zeroValue9
  t24 := Tryz.underlying172
  a24 := Tryz.isAgg172
  z24 := Tryz.sizeOf172
  v24 := Tryz.zeroValue172 }
end Go.Proofs.YtncfmlifponjdaaGreatDoor
