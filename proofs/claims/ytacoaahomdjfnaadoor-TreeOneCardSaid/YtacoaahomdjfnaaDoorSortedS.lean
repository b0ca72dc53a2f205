/- The kit's library contract SlLaysZ.n6 laid at this translation's numbers (written by the kit's lay-plain.mjs, turned by a program of ours). No condition. -/
import Derived.Shelf.SlGeneric
import Derived.Shelf.SlIter.Nil
import Derived.Ground.GgzProg
import Derived.Test.YtacoaahomdjfnaaDoorProg
namespace Go.Proofs.YtacoaahomdjfnaaDoor
open Go.Shelf
def laysSortedS_ren : Go.Shelf.Ren := ⟨fun | 6 => 24 | 8 => 35 | 9 => 36 | 11 => 43 | 13 => 45 | 12 => 44 | 23 => 61 | 24 => 62 | 14 => 52 | 15 => 53 | 16 => 54 | 17 => 55 | 18 => 56 | 19 => 57 | 20 => 58 | 21 => 59 | 22 => 60 | 25 => 70 | 26 => 71 | 27 => 72 | 28 => 73 | 29 => 74 | 30 => 75 | 31 => 82 | n => n, fun | 26 => 9 | 28 => 58 | 24 => 28 | 0 => 0 | 3 => 3 | 37 => 76 | 48 => 67 | 50 => 82 | 4 => 4 | 40 => 90 | 39 => 89 | 45 => 62 | 5 => 5 | 9 => 9 | 51 => 102 | 55 => 106 | 57 => 111 | 58 => 112 | 33 => 71 | n => n, fun | n => n⟩
theorem laysSortedS : Go.Proofs.SlLaysZ.n6 Tryd.prog laysSortedS_ren := {
  mixed := by kernel_rfl
  f6 := ⟨Tryd.f24.name, by decide, Tryd.func24.trans (congrArg some (by kernel_rfl))⟩
  f8 := ⟨Tryd.f35.name, by decide, Tryd.func35.trans (congrArg some (by kernel_rfl))⟩
  f11 := ⟨Tryd.f43.name, by decide, Tryd.func43.trans (congrArg some (by kernel_rfl))⟩
  t0 := Tryd.underlying0
  a0 := Tryd.isAgg0
  z0 := Tryd.sizeOf0
  v0 := Tryd.zeroValue0
  t24 := Tryd.underlying28
  a24 := Tryd.isAgg28
  z24 := Tryd.sizeOf28
  v24 := Tryd.zeroValue28
  t26 := Tryd.underlying9
  a26 := Tryd.isAgg9
  z26 := Tryd.sizeOf9
  v26 := Tryd.zeroValue9
  t28 := Tryd.underlying58
  a28 := Tryd.isAgg58
  z28 := Tryd.sizeOf58
  v28 := Tryd.zeroValue58
  i26 := by kernel_rfl }
end Go.Proofs.YtacoaahomdjfnaaDoor
