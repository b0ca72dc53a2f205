/- The kit's library contract SlLaysM.n5 laid at this translation's numbers (written by the kit's lay-plain.mjs, turned by a program of ours). No condition. -/
import Derived.Shelf.SlGeneric
import Derived.Shelf.SortM.Plain
import Derived.Shelf.SortM.SortNone
import Derived.Ground.SlgmProg
import Derived.Test.YtiohpmcedfbcgabDoorProg
namespace Go.Proofs.YtiohpmcedfbcgabDoor
open Go.Shelf
def laysSortI_ren : Go.Shelf.Ren := ⟨fun | 5 => 157 | 8 => 150 | 7 => 196 | 19 => 191 | 20 => 192 | 10 => 212 | 11 => 213 | 12 => 214 | 13 => 215 | 14 => 216 | 15 => 217 | 16 => 218 | 17 => 219 | 18 => 220 | 30 => 227 | 31 => 208 | 32 => 209 | 33 => 228 | 34 => 229 | 35 => 230 | 40 => 244 | n => n, fun | 23 => 70 | 25 => 3 | 3 => 3 | 32 => 93 | 22 => 70 | 0 => 0 | 44 => 272 | 46 => 275 | 4 => 4 | 36 => 281 | 35 => 280 | 41 => 163 | 5 => 5 | 9 => 9 | 53 => 315 | 57 => 319 | 63 => 330 | 64 => 331 | n => n, fun | n => n⟩
theorem laysSortI : Go.Proofs.SlLaysM.n5 Tryd.prog laysSortI_ren := {
  mixed := by kernel_rfl
  f5 := ⟨Tryd.f157.name, by decide, Tryd.func157.trans (congrArg some (by kernel_rfl))⟩
  f7 := ⟨Tryd.f196.name, by decide, Tryd.func196.trans (congrArg some (by kernel_rfl))⟩
  f8 := Tryd.func150.trans (congrArg some (by kernel_rfl))
  f10 := ⟨Tryd.f212.name, by decide, Tryd.func212.trans (congrArg some (by kernel_rfl))⟩
  f11 := ⟨Tryd.f213.name, by decide, Tryd.func213.trans (congrArg some (by kernel_rfl))⟩
  f12 := ⟨Tryd.f214.name, by decide, Tryd.func214.trans (congrArg some (by kernel_rfl))⟩
  f13 := ⟨Tryd.f215.name, by decide, Tryd.func215.trans (congrArg some (by kernel_rfl))⟩
  f14 := ⟨Tryd.f216.name, by decide, Tryd.func216.trans (congrArg some (by kernel_rfl))⟩
  f15 := ⟨Tryd.f217.name, by decide, Tryd.func217.trans (congrArg some (by kernel_rfl))⟩
  f16 := ⟨Tryd.f218.name, by decide, Tryd.func218.trans (congrArg some (by kernel_rfl))⟩
  f17 := ⟨Tryd.f219.name, by decide, Tryd.func219.trans (congrArg some (by kernel_rfl))⟩
  f18 := ⟨Tryd.f220.name, by decide, Tryd.func220.trans (congrArg some (by kernel_rfl))⟩
  f19 := Tryd.func191.trans (congrArg some (by kernel_rfl))
  f20 := Tryd.func192.trans (congrArg some (by kernel_rfl))
  f30 := ⟨Tryd.f227.name, by decide, Tryd.func227.trans (congrArg some (by kernel_rfl))⟩
  f31 := Tryd.func208.trans (congrArg some (by kernel_rfl))
  f32 := Tryd.func209.trans (congrArg some (by kernel_rfl))
  f33 := ⟨Tryd.f228.name, by decide, Tryd.func228.trans (congrArg some (by kernel_rfl))⟩
  f34 := ⟨Tryd.f229.name, by decide, Tryd.func229.trans (congrArg some (by kernel_rfl))⟩
  f35 := ⟨Tryd.f230.name, by decide, Tryd.func230.trans (congrArg some (by kernel_rfl))⟩
  f40 := ⟨Tryd.f244.name, by decide, Tryd.func244.trans (congrArg some (by kernel_rfl))⟩
  t0 := Tryd.underlying0
  a0 := Tryd.isAgg0
  z0 := Tryd.sizeOf0
  v0 := Tryd.zeroValue0
  t3 := Tryd.underlying3
  a3 := Tryd.isAgg3
  z3 := Tryd.sizeOf3
  v3 := Tryd.zeroValue3
  t4 := Tryd.underlying4
  a4 := Tryd.isAgg4
  z4 := Tryd.sizeOf4
  v4 := Tryd.zeroValue4
  t5 := Tryd.underlying5
  a5 := Tryd.isAgg5
  z5 := Tryd.sizeOf5
  v5 := Tryd.zeroValue5
  t9 := Tryd.underlying9
  a9 := Tryd.isAgg9
  z9 := Tryd.sizeOf9
  v9 := Tryd.zeroValue9
  t22 := Tryd.underlying70
  a22 := Tryd.isAgg70
  z22 := Tryd.sizeOf70
  v22 := Tryd.zeroValue70
  t23 := Tryd.underlying70
  a23 := Tryd.isAgg70
  z23 := Tryd.sizeOf70
  v23 := Tryd.zeroValue70
  t25 := Tryd.underlying3
  a25 := Tryd.isAgg3
  z25 := Tryd.sizeOf3
  v25 := Tryd.zeroValue3
  t32 := Tryd.underlying93
  a32 := Tryd.isAgg93
  z32 := Tryd.sizeOf93
  v32 := Tryd.zeroValue93
  t35 := Tryd.underlying280
  a35 := Tryd.isAgg280
  z35 := Tryd.sizeOf280
  v35 := Tryd.zeroValue280
  t36 := Tryd.underlying281
  a36 := Tryd.isAgg281
  z36 := Tryd.sizeOf281
  v36 := Tryd.zeroValue281
  t41 := Tryd.underlying163
  a41 := Tryd.isAgg163
  z41 := Tryd.sizeOf163
  v41 := Tryd.zeroValue163
  t44 := Tryd.underlying272
  a44 := Tryd.isAgg272
  z44 := Tryd.sizeOf272
  v44 := Tryd.zeroValue272
  t46 := Tryd.underlying275
  a46 := Tryd.isAgg275
  z46 := Tryd.sizeOf275
  v46 := Tryd.zeroValue275
  t53 := Tryd.underlying315
  a53 := Tryd.isAgg315
  z53 := Tryd.sizeOf315
  v53 := Tryd.zeroValue315
  t57 := Tryd.underlying319
  a57 := Tryd.isAgg319
  z57 := Tryd.sizeOf319
  v57 := Tryd.zeroValue319
  t63 := Tryd.underlying330
  a63 := Tryd.isAgg330
  z63 := Tryd.sizeOf330
  v63 := Tryd.zeroValue330
  t64 := Tryd.underlying331
  a64 := Tryd.isAgg331
  z64 := Tryd.sizeOf331
  v64 := Tryd.zeroValue331 }
end Go.Proofs.YtiohpmcedfbcgabDoor
