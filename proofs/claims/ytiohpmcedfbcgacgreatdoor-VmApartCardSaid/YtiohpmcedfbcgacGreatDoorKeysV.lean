/- The kit's library contract SlLaysZI.n7 laid at this translation's numbers (written by the kit's lay-plain.mjs, turned by a program of ours). No condition. -/
import Derived.Shelf.SlGeneric
import Derived.Shelf.SlIterI.Nil
import Derived.Ground.GgzProg
import Derived.Test.YtiohpmcedfbcgacGreatDoorProg
namespace Go.Proofs.YtiohpmcedfbcgacGreatDoor
open Go.Shelf
def laysKeysV_ren : Go.Shelf.Ren := ⟨fun | 7 => 92 | 10 => 203 | n => n, fun | 23 => 150 | 26 => 3 | 3 => 154 | 28 => 163 | 0 => 0 | 27 => 162 | 33 => 265 | 4 => 4 | n => n, fun | n => n⟩
theorem laysKeysV : Go.Proofs.SlLaysZI.n7 Tryz.prog laysKeysV_ren := {
  mixed := by kernel_rfl
  f7 := ⟨Tryz.f92.name, by decide, Tryz.func92.trans (congrArg some (by kernel_rfl))⟩
  f10 := ⟨Tryz.f203.name, by decide, Tryz.func203.trans (congrArg some (by kernel_rfl))⟩
  t0 := Tryz.underlying0
  a0 := Tryz.isAgg0
  z0 := Tryz.sizeOf0
  v0 := Tryz.zeroValue0
  t4 := Tryz.underlying4
  a4 := Tryz.isAgg4
  z4 := Tryz.sizeOf4
  v4 := Tryz.zeroValue4
  t23 := Tryz.underlying150
  a23 := Tryz.isAgg150
  z23 := Tryz.sizeOf150
  v23 := Tryz.zeroValue150
  t26 := Tryz.underlying3
  a26 := Tryz.isAgg3
  z26 := Tryz.sizeOf3
  v26 := Tryz.zeroValue3
  t27 := Tryz.underlying162
  a27 := Tryz.isAgg162
  z27 := Tryz.sizeOf162
  v27 := Tryz.zeroValue162
  t28 := Tryz.underlying163
  a28 := Tryz.isAgg163
  z28 := Tryz.sizeOf163
  v28 := Tryz.zeroValue163
  t33 := Tryz.underlying265
  a33 := Tryz.isAgg265
  z33 := Tryz.sizeOf265
  v33 := Tryz.zeroValue265 }
end Go.Proofs.YtiohpmcedfbcgacGreatDoor
