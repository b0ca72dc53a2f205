/- The kit's library contract SlLaysZ.n7 laid at this translation's numbers (written by the kit's lay-plain.mjs, turned by a program of ours). No condition. -/
import Derived.Shelf.SlGeneric
import Derived.Shelf.SlIter.Nil
import Derived.Ground.GgzProg
import Derived.Test.YtiohpmcedfbcgabDoorProg
namespace Go.Proofs.YtiohpmcedfbcgabDoor
open Go.Shelf
def laysKeysN_ren : Go.Shelf.Ren := ⟨fun | 7 => 175 | 10 => 202 | n => n, fun | 23 => 202 | 26 => 9 | 3 => 3 | 28 => 267 | 0 => 0 | 27 => 266 | 33 => 311 | 4 => 4 | n => n, fun | n => n⟩
theorem laysKeysN : Go.Proofs.SlLaysZ.n7 Tryd.prog laysKeysN_ren := {
  mixed := by kernel_rfl
  f7 := ⟨Tryd.f175.name, by decide, Tryd.func175.trans (congrArg some (by kernel_rfl))⟩
  f10 := ⟨Tryd.f202.name, by decide, Tryd.func202.trans (congrArg some (by kernel_rfl))⟩
  t0 := Tryd.underlying0
  a0 := Tryd.isAgg0
  z0 := Tryd.sizeOf0
  v0 := Tryd.zeroValue0
  t4 := Tryd.underlying4
  a4 := Tryd.isAgg4
  z4 := Tryd.sizeOf4
  v4 := Tryd.zeroValue4
  t23 := Tryd.underlying202
  a23 := Tryd.isAgg202
  z23 := Tryd.sizeOf202
  v23 := Tryd.zeroValue202
  t26 := Tryd.underlying9
  a26 := Tryd.isAgg9
  z26 := Tryd.sizeOf9
  v26 := Tryd.zeroValue9
  t27 := Tryd.underlying266
  a27 := Tryd.isAgg266
  z27 := Tryd.sizeOf266
  v27 := Tryd.zeroValue266
  t28 := Tryd.underlying267
  a28 := Tryd.isAgg267
  z28 := Tryd.sizeOf267
  v28 := Tryd.zeroValue267
  t33 := Tryd.underlying311
  a33 := Tryd.isAgg311
  z33 := Tryd.sizeOf311
  v33 := Tryd.zeroValue311 }
end Go.Proofs.YtiohpmcedfbcgabDoor
