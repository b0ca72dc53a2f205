/- The kit's library contract Lays.n146 laid at this translation's numbers (written by the kit's lay-plain.mjs, turned by a program of ours). No condition. -/
import Derived.Shelf.SlGeneric
import Derived.Shelf.Strings.Split
import Derived.Ground.NamesProg
import Derived.Test.YtiohpmcedfbcgabDoorProg
namespace Go.Proofs.YtiohpmcedfbcgabDoor
open Go.Shelf
def laysSplitI_ren : Go.Shelf.Ren := ⟨fun | 146 => 177 | 221 => 204 | 268 => 223 | 138 => 224 | 143 => 225 | 195 => 240 | 197 => 241 | 218 => 242 | 219 => 243 | 260 => 249 | 217 => 250 | 225 => 251 | 224 => 252 | 267 => 253 | 266 => 255 | 314 => 256 | n => n, fun | 9 => 9 | 31 => 219 | 3 => 3 | 4 => 4 | 0 => 0 | 105 => 341 | 21 => 21 | 5 => 5 | 46 => 93 | 119 => 348 | 139 => 351 | 138 => 350 | 146 => 273 | 51 => 272 | n => n, fun | 1 => 1 | 3 => 2 | 4 => 3 | n => n⟩
theorem laysSplitI : Go.Proofs.Lays.n146 Tryd.prog laysSplitI_ren := {
  mixed := by kernel_rfl
  f138 := Tryd.func224.trans (congrArg some (by kernel_rfl))
  f143 := Tryd.func225.trans (congrArg some (by kernel_rfl))
  f146 := Tryd.func177.trans (congrArg some (by kernel_rfl))
  f195 := Tryd.func240.trans (congrArg some (by kernel_rfl))
  f197 := Tryd.func241.trans (congrArg some (by kernel_rfl))
  f217 := Tryd.func250.trans (congrArg some (by kernel_rfl))
  f218 := Tryd.func242.trans (congrArg some (by kernel_rfl))
  f219 := Tryd.func243.trans (congrArg some (by kernel_rfl))
  f221 := Tryd.func204.trans (congrArg some (by kernel_rfl))
  f224 := Tryd.func252.trans (congrArg some (by kernel_rfl))
  f225 := Tryd.func251.trans (congrArg some (by kernel_rfl))
  f260 := Tryd.func249.trans (congrArg some (by kernel_rfl))
  f266 := Tryd.func255.trans (congrArg some (by kernel_rfl))
  f267 := Tryd.func253.trans (congrArg some (by kernel_rfl))
  f268 := Tryd.func223.trans (congrArg some (by kernel_rfl))
  f314 := Tryd.func256.trans (congrArg some (by kernel_rfl))
  t0 := Tryd.underlying0
  a0 := Tryd.isAgg0
  z0 := Tryd.sizeOf0
  v0 := Tryd.zeroValue0
  t3 := Tryd.underlying3
  a3 := Tryd.isAgg3
  z3 := Tryd.sizeOf3
  v3 := Tryd.zeroValue3
  t4 := Tryd.underlying4
  a4 := Tryd.isAgg4
  z4 := Tryd.sizeOf4
  v4 := Tryd.zeroValue4
  t5 := Tryd.underlying5
  a5 := Tryd.isAgg5
  z5 := Tryd.sizeOf5
  v5 := Tryd.zeroValue5
  t9 := Tryd.underlying9
  a9 := Tryd.isAgg9
  z9 := Tryd.sizeOf9
  v9 := Tryd.zeroValue9
  t21 := Tryd.underlying21
  a21 := Tryd.isAgg21
  z21 := Tryd.sizeOf21
  v21 := Tryd.zeroValue21
  t31 := Tryd.underlying219
  a31 := Tryd.isAgg219
  z31 := Tryd.sizeOf219
  v31 := Tryd.zeroValue219
  t46 := Tryd.underlying93
  a46 := Tryd.isAgg93
  z46 := Tryd.sizeOf93
  v46 := Tryd.zeroValue93
  t51 := Tryd.underlying272
  a51 := Tryd.isAgg272
  z51 := Tryd.sizeOf272
  v51 := Tryd.zeroValue272
  t105 := Tryd.underlying341
  a105 := Tryd.isAgg341
  z105 := Tryd.sizeOf341
  v105 := Tryd.zeroValue341
  t119 := Tryd.underlying348
  a119 := Tryd.isAgg348
  z119 := Tryd.sizeOf348
  t138 := Tryd.underlying350
  a138 := Tryd.isAgg350
  z138 := Tryd.sizeOf350
  v138 := Tryd.zeroValue350
  t139 := Tryd.underlying351
  a139 := Tryd.isAgg351
  z139 := Tryd.sizeOf351
  v139 := Tryd.zeroValue351
  t146 := Tryd.underlying273
  a146 := Tryd.isAgg273
  z146 := Tryd.sizeOf273
  v146 := Tryd.zeroValue273
  g1 := by kernel_rfl
  g3 := by kernel_rfl
  g4 := by kernel_rfl }
end Go.Proofs.YtiohpmcedfbcgabDoor
