/- The kit's library contract SlLaysZI.n7 laid at this translation's numbers (written by the kit's lay-plain.mjs, turned by a program of ours). No condition. -/
import Derived.Shelf.SlGeneric
import Derived.Shelf.SlIterI.Nil
import Derived.Ground.GgzProg
import Derived.Test.YtiohpmcedfbcgabDoorProg
namespace Go.Proofs.YtiohpmcedfbcgabDoor
open Go.Shelf
def laysKeysV_ren : Go.Shelf.Ren := ⟨fun | 7 => 128 | 10 => 170 | n => n, fun | 23 => 194 | 26 => 3 | 3 => 198 | 28 => 175 | 0 => 0 | 27 => 174 | 33 => 74 | 4 => 4 | n => n, fun | n => n⟩
theorem laysKeysV : Go.Proofs.SlLaysZI.n7 Tryd.prog laysKeysV_ren := {
  mixed := by kernel_rfl
  f7 := ⟨Tryd.f128.name, by decide, Tryd.func128.trans (congrArg some (by kernel_rfl))⟩
  f10 := ⟨Tryd.f170.name, by decide, Tryd.func170.trans (congrArg some (by kernel_rfl))⟩
  t0 := Tryd.underlying0
  a0 := Tryd.isAgg0
  z0 := Tryd.sizeOf0
  v0 := Tryd.zeroValue0
  t4 := Tryd.underlying4
  a4 := Tryd.isAgg4
  z4 := Tryd.sizeOf4
  v4 := Tryd.zeroValue4
  t23 := Tryd.underlying194
  a23 := Tryd.isAgg194
  z23 := Tryd.sizeOf194
  v23 := Tryd.zeroValue194
  t26 := Tryd.underlying3
  a26 := Tryd.isAgg3
  z26 := Tryd.sizeOf3
  v26 := Tryd.zeroValue3
  t27 := Tryd.underlying174
  a27 := Tryd.isAgg174
  z27 := Tryd.sizeOf174
  v27 := Tryd.zeroValue174
  t28 := Tryd.underlying175
  a28 := Tryd.isAgg175
  z28 := Tryd.sizeOf175
  v28 := Tryd.zeroValue175
  t33 := Tryd.underlying74
  a33 := Tryd.isAgg74
  z33 := Tryd.sizeOf74
  v33 := Tryd.zeroValue74 }
end Go.Proofs.YtiohpmcedfbcgabDoor
