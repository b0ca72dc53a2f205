/- The kit's library contract Lays.n103 laid at this translation's numbers (written by the kit's lay-plain.mjs, turned by a program of ours). No condition. -/
import Derived.Shelf.SlGeneric
import Derived.Shelf.Small.Wraps
import Derived.Ground.NamesProg
import Derived.Test.YtamleilijmgoeaaGreatDoorProg
namespace Go.Proofs.YtamleilijmgoeaaGreatDoor
open Go.Shelf
def laysCutPreI_ren : Go.Shelf.Ren := ⟨fun | 103 => 300 | 210 => 315 | 206 => 277 | n => n, fun | 9 => 9 | 4 => 4 | 24 => 416 | 3 => 3 | n => n, fun | n => n⟩
theorem laysCutPreI : Go.Proofs.Lays.n103 Tryz.prog laysCutPreI_ren := {
  mixed := by kernel_rfl
  f103 := Tryz.func300.trans (congrArg some (by kernel_rfl))
  f206 := Tryz.func277.trans (congrArg some (by kernel_rfl))
  f210 := Tryz.func315.trans (congrArg some (by kernel_rfl))
  t3 := Tryz.underlying3
  a3 := Tryz.isAgg3
  z3 := Tryz.sizeOf3
  v3 := Tryz.zeroValue3
  t4 := Tryz.underlying4
  a4 := Tryz.isAgg4
  z4 := Tryz.sizeOf4
  v4 := Tryz.zeroValue4
  t9 := Tryz.underlying9
  a9 := Tryz.isAgg9
  z9 := Tryz.sizeOf9
  v9 := Tryz.zeroValue9
  t24 := Tryz.underlying416
  a24 := Tryz.isAgg416
  z24 := Tryz.sizeOf416
  v24 := Tryz.zeroValue416 }
end Go.Proofs.YtamleilijmgoeaaGreatDoor
