/- The kit's library contract Lays.n169 laid at this translation's numbers (written by the kit's lay-plain.mjs, turned by a program of ours). No condition. -/
import Derived.Shelf.SlGeneric
import Derived.Shelf.Strings.Builder1
import Derived.Ground.NamesProg
import Derived.Test.YtiohpmcedfbcgacGreatDoorProg
namespace Go.Proofs.YtiohpmcedfbcgacGreatDoor
open Go.Shelf
def laysBsI_ren : Go.Shelf.Ren := ⟨fun | 169 => 90 | n => n, fun | 70 => 156 | 9 => 9 | 0 => 0 | 72 => 158 | 37 => 58 | 127 => 301 | 3 => 3 | 5 => 5 | n => n, fun | n => n⟩
theorem laysBsI : Go.Proofs.Lays.n169 Tryz.prog laysBsI_ren := {
  mixed := by kernel_rfl
  f169 := Tryz.func90.trans (congrArg some (by kernel_rfl))
  t0 := Tryz.underlying0
  a0 := Tryz.isAgg0
  z0 := Tryz.sizeOf0
  v0 := Tryz.zeroValue0
  t3 := Tryz.underlying3
  a3 := Tryz.isAgg3
  z3 := Tryz.sizeOf3
  v3 := Tryz.zeroValue3
  t9 := Tryz.underlying9
  a9 := Tryz.isAgg9
  z9 := Tryz.sizeOf9
  v9 := Tryz.zeroValue9
  t37 := Tryz.underlying58
  a37 := Tryz.isAgg58
  z37 := Tryz.sizeOf58
  v37 := Tryz.zeroValue58
  t70 := Tryz.underlying156
  a70 := Tryz.isAgg156
  z70 := Tryz.sizeOf156
  v70 := Tryz.zeroValue156
  t72 := Tryz.underlying158
  a72 := Tryz.isAgg158
  z72 := Tryz.sizeOf158
  v72 := Tryz.zeroValue158
  t127 := Tryz.underlying301
  a127 := Tryz.isAgg301
  z127 := Tryz.sizeOf301
  v127 := Tryz.zeroValue301 }
end Go.Proofs.YtiohpmcedfbcgacGreatDoor
