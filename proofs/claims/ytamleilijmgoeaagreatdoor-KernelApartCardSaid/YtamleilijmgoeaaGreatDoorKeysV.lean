/- The kit's library contract SlLaysZI.n7 laid at this translation's numbers (written by the kit's lay-plain.mjs, turned by a program of ours). No condition. -/
import Derived.Shelf.SlGeneric
import Derived.Shelf.SlIterI.Nil
import Derived.Ground.GgzProg
import Derived.Test.YtamleilijmgoeaaGreatDoorProg
namespace Go.Proofs.YtamleilijmgoeaaGreatDoor
open Go.Shelf
def laysKeysV_ren : Go.Shelf.Ren := ⟨fun | 7 => 151 | 10 => 228 | n => n, fun | 23 => 224 | 26 => 3 | 3 => 242 | 28 => 265 | 0 => 0 | 27 => 264 | 33 => 171 | 4 => 4 | n => n, fun | n => n⟩
theorem laysKeysV : Go.Proofs.SlLaysZI.n7 Tryz.prog laysKeysV_ren := {
  mixed := by kernel_rfl
  f7 := ⟨Tryz.f151.name, by decide, Tryz.func151.trans (congrArg some (by kernel_rfl))⟩
  f10 := ⟨Tryz.f228.name, by decide, Tryz.func228.trans (congrArg some (by kernel_rfl))⟩
  t0 := Tryz.underlying0
  a0 := Tryz.isAgg0
  z0 := Tryz.sizeOf0
  v0 := Tryz.zeroValue0
  t4 := Tryz.underlying4
  a4 := Tryz.isAgg4
  z4 := Tryz.sizeOf4
  v4 := Tryz.zeroValue4
  t23 := Tryz.underlying224
  a23 := Tryz.isAgg224
  z23 := Tryz.sizeOf224
  v23 := Tryz.zeroValue224
  t26 := Tryz.underlying3
  a26 := Tryz.isAgg3
  z26 := Tryz.sizeOf3
  v26 := Tryz.zeroValue3
  t27 := Tryz.underlying264
  a27 := Tryz.isAgg264
  z27 := Tryz.sizeOf264
  v27 := Tryz.zeroValue264
  t28 := Tryz.underlying265
  a28 := Tryz.isAgg265
  z28 := Tryz.sizeOf265
  v28 := Tryz.zeroValue265
  t33 := Tryz.underlying171
  a33 := Tryz.isAgg171
  z33 := Tryz.sizeOf171
  v33 := Tryz.zeroValue171 }
end Go.Proofs.YtamleilijmgoeaaGreatDoor
