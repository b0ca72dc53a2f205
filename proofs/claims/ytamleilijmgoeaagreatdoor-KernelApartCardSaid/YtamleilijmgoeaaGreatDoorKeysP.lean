/- The kit's library contract SlLaysZI.n7 laid at this translation's numbers (written by the kit's lay-plain.mjs, turned by a program of ours). No condition. -/
import Derived.Shelf.SlGeneric
import Derived.Shelf.SlIterI.Nil
import Derived.Ground.GgzProg
import Derived.Test.YtamleilijmgoeaaGreatDoorProg
namespace Go.Proofs.YtamleilijmgoeaaGreatDoor
open Go.Shelf
def laysKeysP_ren : Go.Shelf.Ren := ⟨fun | 7 => 162 | 10 => 236 | n => n, fun | 23 => 230 | 26 => 3 | 3 => 227 | 28 => 265 | 0 => 0 | 27 => 264 | 33 => 171 | 4 => 4 | n => n, fun | n => n⟩
theorem laysKeysP : Go.Proofs.SlLaysZI.n7 Tryz.prog laysKeysP_ren := {
  mixed := by kernel_rfl
  f7 := ⟨Tryz.f162.name, by decide, Tryz.func162.trans (congrArg some (by kernel_rfl))⟩
  f10 := ⟨Tryz.f236.name, by decide, Tryz.func236.trans (congrArg some (by kernel_rfl))⟩
  t0 := Tryz.underlying0
  a0 := Tryz.isAgg0
  z0 := Tryz.sizeOf0
  v0 := Tryz.zeroValue0
  t4 := Tryz.underlying4
  a4 := Tryz.isAgg4
  z4 := Tryz.sizeOf4
  v4 := Tryz.zeroValue4
  t23 := Tryz.underlying230
  a23 := Tryz.isAgg230
  z23 := Tryz.sizeOf230
  v23 := Tryz.zeroValue230
  t26 := Tryz.underlying3
  a26 := Tryz.isAgg3
  z26 := Tryz.sizeOf3
  v26 := Tryz.zeroValue3
  t27 := Tryz.underlying264
  a27 := Tryz.isAgg264
  z27 := Tryz.sizeOf264
  v27 := Tryz.zeroValue264
  t28 := Tryz.underlying265
  a28 := Tryz.isAgg265
  z28 := Tryz.sizeOf265
  v28 := Tryz.zeroValue265
  t33 := Tryz.underlying171
  a33 := Tryz.isAgg171
  z33 := Tryz.sizeOf171
  v33 := Tryz.zeroValue171 }
end Go.Proofs.YtamleilijmgoeaaGreatDoor
