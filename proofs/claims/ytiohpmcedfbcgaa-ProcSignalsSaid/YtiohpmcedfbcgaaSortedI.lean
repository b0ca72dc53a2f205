/- The kit's library contract SlLaysZI.n6 laid at this translation's numbers (written by the kit's lay-plain.mjs, turned by a program of ours). No condition. -/
import Derived.Shelf.SlGeneric
import Derived.Shelf.SlIterI.Nil
import Derived.Ground.GgzProg
import Derived.Test.YtiohpmcedfbcgaaProg
namespace Go.Proofs.Ytiohpmcedfbcgaa
open Go.Shelf
def laysSortedI_ren : Go.Shelf.Ren := ⟨fun | 6 => 72 | 8 => 79 | 9 => 80 | 11 => 83 | 13 => 54 | 12 => 84 | 23 => 70 | 24 => 71 | 14 => 85 | 15 => 86 | 16 => 87 | 17 => 88 | 18 => 89 | 19 => 90 | 20 => 91 | 21 => 92 | 22 => 93 | 25 => 94 | 26 => 75 | 27 => 76 | 28 => 95 | 29 => 96 | 30 => 49 | 31 => 97 | n => n, fun | 26 => 3 | 28 => 120 | 24 => 62 | 0 => 0 | 3 => 3 | 37 => 70 | 48 => 115 | 50 => 117 | 4 => 4 | 40 => 109 | 39 => 108 | 45 => 40 | 5 => 5 | 9 => 9 | 51 => 122 | 55 => 126 | 57 => 129 | 58 => 130 | 33 => 97 | n => n, fun | n => n⟩
theorem laysSortedI : Go.Proofs.SlLaysZI.n6 Try.prog laysSortedI_ren := {
  mixed := by kernel_rfl
  f6 := ⟨Try.f72.name, by decide, Try.func72.trans (congrArg some (by kernel_rfl))⟩
  f8 := ⟨Try.f79.name, by decide, Try.func79.trans (congrArg some (by kernel_rfl))⟩
  f11 := ⟨Try.f83.name, by decide, Try.func83.trans (congrArg some (by kernel_rfl))⟩
  t0 := Try.underlying0
  a0 := Try.isAgg0
  z0 := Try.sizeOf0
  v0 := Try.zeroValue0
  t24 := Try.underlying62
  a24 := Try.isAgg62
  z24 := Try.sizeOf62
  v24 := Try.zeroValue62
  t26 := Try.underlying3
  a26 := Try.isAgg3
  z26 := Try.sizeOf3
  v26 := Try.zeroValue3
  t28 := Try.underlying120
  a28 := Try.isAgg120
  z28 := Try.sizeOf120
  v28 := Try.zeroValue120
  i26 := by kernel_rfl }
end Go.Proofs.Ytiohpmcedfbcgaa
