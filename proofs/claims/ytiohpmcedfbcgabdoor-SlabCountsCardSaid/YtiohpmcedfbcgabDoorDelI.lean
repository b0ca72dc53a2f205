/- The kit's library contract Lays2.n23 laid at this translation's numbers (written by the kit's lay-plain.mjs, turned by a program of ours). No condition. -/
import Derived.Shelf.SlGeneric
import Derived.Shelf.Slices.Delete
import Derived.Ground.Names2Prog
import Derived.Test.YtiohpmcedfbcgabDoorProg
namespace Go.Proofs.YtiohpmcedfbcgabDoor
open Go.Shelf
def laysDelI_ren : Go.Shelf.Ren := ⟨fun | 23 => 65 | n => n, fun | 22 => 70 | 3 => 3 | 4 => 4 | 0 => 0 | n => n, fun | n => n⟩
theorem laysDelI : Go.Proofs.Lays2.n23 Tryd.prog laysDelI_ren := {
  mixed := by kernel_rfl
  f23 := Tryd.func65.trans (congrArg some (by kernel_rfl))
  t0 := Tryd.underlying0
  a0 := Tryd.isAgg0
  z0 := Tryd.sizeOf0
  v0 := Tryd.zeroValue0
  t3 := Tryd.underlying3
  a3 := Tryd.isAgg3
  z3 := Tryd.sizeOf3
  v3 := Tryd.zeroValue3
  t4 := Tryd.underlying4
  a4 := Tryd.isAgg4
  z4 := Tryd.sizeOf4
  v4 := Tryd.zeroValue4
  t22 := Tryd.underlying70
  a22 := Tryd.isAgg70
  z22 := Tryd.sizeOf70
  v22 := Tryd.zeroValue70
  i3 := by kernel_rfl }
end Go.Proofs.YtiohpmcedfbcgabDoor
