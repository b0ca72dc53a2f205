/- The kit's library contract SlLaysZ.n6 laid at this translation's numbers (written by the kit's lay-plain.mjs, turned by a program of ours). No condition. -/
import Derived.Shelf.SlGeneric
import Derived.Shelf.SlIter.Nil
import Derived.Ground.GgzProg
import Derived.Test.YtiohpmcedfbcgabDoorProg
namespace Go.Proofs.YtiohpmcedfbcgabDoor
open Go.Shelf
def laysSortedS_ren : Go.Shelf.Ren := ⟨fun | 6 => 174 | 8 => 200 | 9 => 201 | 11 => 221 | 13 => 150 | 12 => 222 | 23 => 191 | 24 => 192 | 14 => 231 | 15 => 232 | 16 => 233 | 17 => 234 | 18 => 235 | 19 => 236 | 20 => 237 | 21 => 238 | 22 => 239 | 25 => 245 | 26 => 208 | 27 => 209 | 28 => 246 | 29 => 247 | 30 => 248 | 31 => 254 | n => n, fun | 26 => 9 | 28 => 267 | 24 => 219 | 0 => 0 | 3 => 3 | 37 => 93 | 48 => 272 | 50 => 275 | 4 => 4 | 40 => 281 | 39 => 280 | 45 => 163 | 5 => 5 | 9 => 9 | 51 => 315 | 55 => 319 | 57 => 330 | 58 => 331 | 33 => 311 | n => n, fun | n => n⟩
theorem laysSortedS : Go.Proofs.SlLaysZ.n6 Tryd.prog laysSortedS_ren := {
  mixed := by kernel_rfl
  f6 := ⟨Tryd.f174.name, by decide, Tryd.func174.trans (congrArg some (by kernel_rfl))⟩
  f8 := ⟨Tryd.f200.name, by decide, Tryd.func200.trans (congrArg some (by kernel_rfl))⟩
  f11 := ⟨Tryd.f221.name, by decide, Tryd.func221.trans (congrArg some (by kernel_rfl))⟩
  t0 := Tryd.underlying0
  a0 := Tryd.isAgg0
  z0 := Tryd.sizeOf0
  v0 := Tryd.zeroValue0
  t24 := Tryd.underlying219
  a24 := Tryd.isAgg219
  z24 := Tryd.sizeOf219
  v24 := Tryd.zeroValue219
  t26 := Tryd.underlying9
  a26 := Tryd.isAgg9
  z26 := Tryd.sizeOf9
  v26 := Tryd.zeroValue9
  t28 := Tryd.underlying267
  a28 := Tryd.isAgg267
  z28 := Tryd.sizeOf267
  v28 := Tryd.zeroValue267
  i26 := by kernel_rfl }
end Go.Proofs.YtiohpmcedfbcgabDoor
