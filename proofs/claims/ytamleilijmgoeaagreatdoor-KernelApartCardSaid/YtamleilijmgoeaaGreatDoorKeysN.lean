/- The kit's library contract SlLaysZ.n7 laid at this translation's numbers (written by the kit's lay-plain.mjs, turned by a program of ours). No condition. -/
import Derived.Shelf.SlGeneric
import Derived.Shelf.SlIter.Nil
import Derived.Ground.GgzProg
import Derived.Test.YtamleilijmgoeaaGreatDoorProg
namespace Go.Proofs.YtamleilijmgoeaaGreatDoor
open Go.Shelf
def laysKeysN_ren : Go.Shelf.Ren := ⟨fun | 7 => 280 | 10 => 304 | n => n, fun | 23 => 215 | 26 => 9 | 3 => 3 | 28 => 394 | 0 => 0 | 27 => 393 | 33 => 72 | 4 => 4 | n => n, fun | n => n⟩
theorem laysKeysN : Go.Proofs.SlLaysZ.n7 Tryz.prog laysKeysN_ren := {
  mixed := by kernel_rfl
  f7 := ⟨Tryz.f280.name, by decide, Tryz.func280.trans (congrArg some (by kernel_rfl))⟩
  f10 := ⟨Tryz.f304.name, by decide, Tryz.func304.trans (congrArg some (by kernel_rfl))⟩
  t0 := Tryz.underlying0
  a0 := Tryz.isAgg0
  z0 := Tryz.sizeOf0
  v0 := Tryz.zeroValue0
  t4 := Tryz.underlying4
  a4 := Tryz.isAgg4
  z4 := Tryz.sizeOf4
  v4 := Tryz.zeroValue4
  t23 := Tryz.underlying215
  a23 := Tryz.isAgg215
  z23 := Tryz.sizeOf215
  v23 := Tryz.zeroValue215
  t26 := Tryz.underlying9
  a26 := Tryz.isAgg9
  z26 := Tryz.sizeOf9
  v26 := Tryz.zeroValue9
  t27 := Tryz.underlying393
  a27 := Tryz.isAgg393
  z27 := Tryz.sizeOf393
  v27 := Tryz.zeroValue393
  t28 := Tryz.underlying394
  a28 := Tryz.isAgg394
  z28 := Tryz.sizeOf394
  v28 := Tryz.zeroValue394
  t33 := Tryz.underlying72
  a33 := Tryz.isAgg72
  z33 := Tryz.sizeOf72
  v33 := Tryz.zeroValue72 }
end Go.Proofs.YtamleilijmgoeaaGreatDoor
