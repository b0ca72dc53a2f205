/- The kit's library contract SlLaysM.n5 laid at this translation's numbers (written by the kit's lay-plain.mjs, turned by a program of ours). No condition. -/
import Derived.Shelf.SlGeneric
import Derived.Shelf.SortM.Plain
import Derived.Shelf.SortM.SortNone
import Derived.Ground.SlgmProg
import Derived.Test.YtiohpmcedfbcgabGreatDoorProg
namespace Go.Proofs.YtiohpmcedfbcgabGreatDoor
open Go.Shelf
def laysSortI_ren : Go.Shelf.Ren := ⟨fun | 5 => 140 | 8 => 212 | 7 => 211 | 19 => 271 | 20 => 272 | 10 => 262 | 11 => 263 | 12 => 264 | 13 => 265 | 14 => 266 | 15 => 267 | 16 => 268 | 17 => 269 | 18 => 270 | 30 => 334 | 31 => 335 | 32 => 336 | 33 => 337 | 34 => 338 | 35 => 339 | 40 => 376 | n => n, fun | 23 => 155 | 25 => 3 | 3 => 3 | 32 => 46 | 22 => 155 | 0 => 0 | 44 => 110 | 46 => 107 | 4 => 4 | 36 => 402 | 35 => 401 | 41 => 202 | 5 => 5 | 9 => 9 | 53 => 457 | 57 => 357 | 63 => 498 | 64 => 499 | n => n, fun | n => n⟩
theorem laysSortI : Go.Proofs.SlLaysM.n5 Tryz.prog laysSortI_ren := {
  mixed := by kernel_rfl
  f5 := ⟨Tryz.f140.name, by decide, Tryz.func140.trans (congrArg some (by kernel_rfl))⟩
  f7 := ⟨Tryz.f211.name, by decide, Tryz.func211.trans (congrArg some (by kernel_rfl))⟩
  f8 := Tryz.func212.trans (congrArg some (by kernel_rfl))
  f10 := ⟨Tryz.f262.name, by decide, Tryz.func262.trans (congrArg some (by kernel_rfl))⟩
  f11 := ⟨Tryz.f263.name, by decide, Tryz.func263.trans (congrArg some (by kernel_rfl))⟩
  f12 := ⟨Tryz.f264.name, by decide, Tryz.func264.trans (congrArg some (by kernel_rfl))⟩
  f13 := ⟨Tryz.f265.name, by decide, Tryz.func265.trans (congrArg some (by kernel_rfl))⟩
  f14 := ⟨Tryz.f266.name, by decide, Tryz.func266.trans (congrArg some (by kernel_rfl))⟩
  f15 := ⟨Tryz.f267.name, by decide, Tryz.func267.trans (congrArg some (by kernel_rfl))⟩
  f16 := ⟨Tryz.f268.name, by decide, Tryz.func268.trans (congrArg some (by kernel_rfl))⟩
  f17 := ⟨Tryz.f269.name, by decide, Tryz.func269.trans (congrArg some (by kernel_rfl))⟩
  f18 := ⟨Tryz.f270.name, by decide, Tryz.func270.trans (congrArg some (by kernel_rfl))⟩
  f19 := Tryz.func271.trans (congrArg some (by kernel_rfl))
  f20 := Tryz.func272.trans (congrArg some (by kernel_rfl))
  f30 := ⟨Tryz.f334.name, by decide, Tryz.func334.trans (congrArg some (by kernel_rfl))⟩
  f31 := Tryz.func335.trans (congrArg some (by kernel_rfl))
  f32 := Tryz.func336.trans (congrArg some (by kernel_rfl))
  f33 := ⟨Tryz.f337.name, by decide, Tryz.func337.trans (congrArg some (by kernel_rfl))⟩
  f34 := ⟨Tryz.f338.name, by decide, Tryz.func338.trans (congrArg some (by kernel_rfl))⟩
  f35 := ⟨Tryz.f339.name, by decide, Tryz.func339.trans (congrArg some (by kernel_rfl))⟩
  f40 := ⟨Tryz.f376.name, by decide, Tryz.func376.trans (congrArg some (by kernel_rfl))⟩
  t0 := Tryz.underlying0
  a0 := Tryz.isAgg0
  z0 := Tryz.sizeOf0
  v0 := Tryz.zeroValue0
  t3 := Tryz.underlying3
  a3 := Tryz.isAgg3
  z3 := Tryz.sizeOf3
  v3 := Tryz.zeroValue3
  t4 := Tryz.underlying4
  a4 := Tryz.isAgg4
  z4 := Tryz.sizeOf4
  v4 := Tryz.zeroValue4
  t5 := Tryz.underlying5
  a5 := Tryz.isAgg5
  z5 := Tryz.sizeOf5
  v5 := Tryz.zeroValue5
  t9 := Tryz.underlying9
  a9 := Tryz.isAgg9
  z9 := Tryz.sizeOf9
  v9 := Tryz.zeroValue9
  t22 := Tryz.underlying155
  a22 := Tryz.isAgg155
  z22 := Tryz.sizeOf155
  v22 := Tryz.zeroValue155
  t23 := Tryz.underlying155
  a23 := Tryz.isAgg155
  z23 := Tryz.sizeOf155
  v23 := Tryz.zeroValue155
  t25 := Tryz.underlying3
  a25 := Tryz.isAgg3
  z25 := Tryz.sizeOf3
  v25 := Tryz.zeroValue3
  t32 := Tryz.underlying46
  a32 := Tryz.isAgg46
  z32 := Tryz.sizeOf46
  v32 := Tryz.zeroValue46
  t35 := Tryz.underlying401
  a35 := Tryz.isAgg401
  z35 := Tryz.sizeOf401
  v35 := Tryz.zeroValue401
  t36 := Tryz.underlying402
  a36 := Tryz.isAgg402
  z36 := Tryz.sizeOf402
  v36 := Tryz.zeroValue402
  t41 := Tryz.underlying202
  a41 := Tryz.isAgg202
  z41 := Tryz.sizeOf202
  v41 := Tryz.zeroValue202
  t44 := Tryz.underlying110
  a44 := Tryz.isAgg110
  z44 := Tryz.sizeOf110
  v44 := Tryz.zeroValue110
  t46 := Tryz.underlying107
  a46 := Tryz.isAgg107
  z46 := Tryz.sizeOf107
  v46 := Tryz.zeroValue107
  t53 := Tryz.underlying457
  a53 := Tryz.isAgg457
  z53 := Tryz.sizeOf457
  v53 := Tryz.zeroValue457
  t57 := Tryz.underlying357
  a57 := Tryz.isAgg357
  z57 := Tryz.sizeOf357
  v57 := Tryz.zeroValue357
  t63 := Tryz.underlying498
  a63 := Tryz.isAgg498
  z63 := Tryz.sizeOf498
  v63 := Tryz.zeroValue498
  t64 := Tryz.underlying499
  a64 := Tryz.isAgg499
  z64 := Tryz.sizeOf499
  v64 := Tryz.zeroValue499 }
end Go.Proofs.YtiohpmcedfbcgabGreatDoor
