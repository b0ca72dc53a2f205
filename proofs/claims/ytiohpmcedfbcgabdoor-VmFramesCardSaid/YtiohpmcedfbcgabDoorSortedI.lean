/- The kit's library contract SlLaysZI.n6 laid at this translation's numbers (written by the kit's lay-plain.mjs, turned by a program of ours). No condition. -/
import Derived.Shelf.SlGeneric
import Derived.Shelf.SlIterI.Nil
import Derived.Ground.GgzProg
import Derived.Test.YtiohpmcedfbcgabDoorProg
namespace Go.Proofs.YtiohpmcedfbcgabDoor
open Go.Shelf
def laysSortedI_ren : Go.Shelf.Ren := ⟨fun | 6 => 114 | 8 => 158 | 9 => 157 | 11 => 197 | 13 => 150 | 12 => 196 | 23 => 191 | 24 => 192 | 14 => 212 | 15 => 213 | 16 => 214 | 17 => 215 | 18 => 216 | 19 => 217 | 20 => 218 | 21 => 219 | 22 => 220 | 25 => 227 | 26 => 208 | 27 => 209 | 28 => 228 | 29 => 229 | 30 => 230 | 31 => 244 | n => n, fun | 26 => 3 | 28 => 175 | 24 => 70 | 0 => 0 | 3 => 3 | 37 => 93 | 48 => 272 | 50 => 275 | 4 => 4 | 40 => 281 | 39 => 280 | 45 => 163 | 5 => 5 | 9 => 9 | 51 => 315 | 55 => 319 | 57 => 330 | 58 => 331 | 33 => 74 | n => n, fun | n => n⟩
theorem laysSortedI : Go.Proofs.SlLaysZI.n6 Tryd.prog laysSortedI_ren := {
  mixed := by kernel_rfl
  f6 := ⟨Tryd.f114.name, by decide, Tryd.func114.trans (congrArg some (by kernel_rfl))⟩
  f8 := ⟨Tryd.f158.name, by decide, Tryd.func158.trans (congrArg some (by kernel_rfl))⟩
  f11 := ⟨Tryd.f197.name, by decide, Tryd.func197.trans (congrArg some (by kernel_rfl))⟩
  t0 := Tryd.underlying0
  a0 := Tryd.isAgg0
  z0 := Tryd.sizeOf0
  v0 := Tryd.zeroValue0
  t24 := Tryd.underlying70
  a24 := Tryd.isAgg70
  z24 := Tryd.sizeOf70
  v24 := Tryd.zeroValue70
  t26 := Tryd.underlying3
  a26 := Tryd.isAgg3
  z26 := Tryd.sizeOf3
  v26 := Tryd.zeroValue3
  t28 := Tryd.underlying175
  a28 := Tryd.isAgg175
  z28 := Tryd.sizeOf175
  v28 := Tryd.zeroValue175
  i26 := by kernel_rfl }
end Go.Proofs.YtiohpmcedfbcgabDoor
