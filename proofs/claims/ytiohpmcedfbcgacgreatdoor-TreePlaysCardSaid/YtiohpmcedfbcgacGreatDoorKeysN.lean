/- The kit's library contract SlLaysZ.n7 laid at this translation's numbers (written by the kit's lay-plain.mjs, turned by a program of ours). No condition. -/
import Derived.Shelf.SlGeneric
import Derived.Shelf.SlIter.Nil
import Derived.Ground.GgzProg
import Derived.Test.YtiohpmcedfbcgacGreatDoorProg
namespace Go.Proofs.YtiohpmcedfbcgacGreatDoor
open Go.Shelf
def laysKeysN_ren : Go.Shelf.Ren := ⟨fun | 7 => 127 | 10 => 229 | n => n, fun | 23 => 166 | 26 => 9 | 3 => 3 | 28 => 214 | 0 => 0 | 27 => 213 | 33 => 125 | 4 => 4 | n => n, fun | n => n⟩
theorem laysKeysN : Go.Proofs.SlLaysZ.n7 Tryz.prog laysKeysN_ren := {
  mixed := by kernel_rfl
  f7 := ⟨Tryz.f127.name, by decide, Tryz.func127.trans (congrArg some (by kernel_rfl))⟩
  f10 := ⟨Tryz.f229.name, by decide, Tryz.func229.trans (congrArg some (by kernel_rfl))⟩
  t0 := Tryz.underlying0
  a0 := Tryz.isAgg0
  z0 := Tryz.sizeOf0
  v0 := Tryz.zeroValue0
  t4 := Tryz.underlying4
  a4 := Tryz.isAgg4
  z4 := Tryz.sizeOf4
  v4 := Tryz.zeroValue4
  t23 := Tryz.underlying166
  a23 := Tryz.isAgg166
  z23 := Tryz.sizeOf166
  v23 := Tryz.zeroValue166
  t26 := Tryz.underlying9
  a26 := Tryz.isAgg9
  z26 := Tryz.sizeOf9
  v26 := Tryz.zeroValue9
  t27 := Tryz.underlying213
  a27 := Tryz.isAgg213
  z27 := Tryz.sizeOf213
  v27 := Tryz.zeroValue213
  t28 := Tryz.underlying214
  a28 := Tryz.isAgg214
  z28 := Tryz.sizeOf214
  v28 := Tryz.zeroValue214
  t33 := Tryz.underlying125
  a33 := Tryz.isAgg125
  z33 := Tryz.sizeOf125
  v33 := Tryz.zeroValue125 }
end Go.Proofs.YtiohpmcedfbcgacGreatDoor
