/- Several texts of ours in one, in build order (As, Tell, AsAt). Conditions: each theorem's own premises. -/
import Derived.Test.YtiohpmcedfbcgacGreatDoorBase
import Derived.Test.YtiohpmcedfbcgacGreatDoorProg
import Derived.Test.YtiohpmcedfbcgacGreatDoorChecked
import Derived.WalkKit
import Derived.LaidEql
import Derived.Stop.Asserts
import Derived.RowKitTokens
/- errors.As at the target *api.Errno: of nil; of an api.Errno. Turned from the worked example Toyas. Condition: the variable errors.errorType holds what is laid. -/
namespace Go.Proofs.YtiohpmcedfbcgacGreatDoor
open Go.RowKit Go.Extern.Stop Go.Stop Go.Extern
set_option linter.unusedVariables false

/-- errors.As(nil, target). -/
theorem as_nil (t : Value) (w : World) :
    Calls Tryz.prog 95 #[.nilIface, t] w fun e w' => e = .returned (.bool false) ∧ w' = w := by
  go_enter Tryz.func95, Tryz.ntmps95
  go_wp2
  go_ret
  exact ⟨rfl, rfl⟩

/-! ### closed facts on the model's entries for internal/reflectlite, at this program's types ('27': *api.Errno, '25': api.Errno) -/
theorem AsF.valueOf27 (t : Addr) (w : World) : (ReflectliteValue.unpack (.iface 174 (.pointer (some t)))).run Tryz.prog w
    = .ok (.agg #[.pointer (some ⟨7, 174, none⟩), .pointer (some ⟨w.heap.size, 0, none⟩), .int .u64 150]) (w.alloc (.cells #[.pointer (some t)] 174)) := by kernel_rfl
theorem AsF.type27 (a : Addr) (w : World) : (ReflectliteValue.methodAny (ReflectliteValue.valueError "reflectlite.Value.Type" 0) (fun t _ _ _ => ReflectliteType.toType t) #[.agg #[.pointer (some ⟨7, 174, none⟩), .pointer (some a), .int .u64 150]]).run Tryz.prog w
    = .ok (.iface 396 (.agg #[.pointer (some ⟨7, 174, none⟩)])) w := by kernel_rfl
theorem AsF.methodKind (h : Value) (w : World) : (Go.method 596 396 (.agg #[h]) "Kind").run Tryz.prog w = .ok (376, h) w := by kernel_rfl
theorem AsF.kind27 (w : World) : ((ReflectliteType.abiMethod fun t => (fun a : Nat => Value.int IntKind.u8 (a : Int)) <$> Rtype.kind t) #[.pointer (some ⟨7, 174, none⟩)]).run Tryz.prog w = .ok (.int .u8 22) w := by kernel_rfl
theorem AsF.kind25 (w : World) : ((ReflectliteType.abiMethod fun t => (fun a : Nat => Value.int IntKind.u8 (a : Int)) <$> Rtype.kind t) #[.pointer (some ⟨7, 45, none⟩)]).run Tryz.prog w = .ok (.int .u8 2) w := by kernel_rfl

/-! ### THE ENTRIES THAT READ OR WRITE MEMORY: laws with a premise on the cell (after Derived/Lib/ReflectliteSlice.lean's manner: each unfolding a lemma of its own, by rfl) -/
theorem rlm (z : Sem Value) (f : TypeId → Addr → Nat → Nat → Sem Value) (v : Value) :
    ReflectliteValue.method z f #[v] = (do match ← ReflectliteValue.parts v with | none => z | some (t, a, fl) => f t a fl (fl % 32)) := rfl
theorem AsF.parts27 (a : Addr) (w : World) : (ReflectliteValue.parts (.agg #[.pointer (some ⟨7, 174, none⟩), .pointer (some a), .int .u64 150])).run Tryz.prog w = .ok (some (174, a, 150)) w := by kernel_rfl
/-- (Value).IsNil at the Value of a **p.E that is not nil. -/
theorem AsF.isNil27 (a p : Addr) (W : World) (ha : W.cell? a = some (.pointer (some p))) :
    (ReflectliteValue.method (ReflectliteValue.valueError "reflectlite.Value.IsNil" 0) ReflectliteValue.isNil #[.agg #[.pointer (some ⟨7, 174, none⟩), .pointer (some a), .int .u64 150]]).run Tryz.prog W = .ok (.bool false) W := by
  rw [rlm]
  simp only [Sem.run_bind, AsF.parts27, Result.andThen]
  simp [ReflectliteValue.isNil, loadVar, isAgg, underlying, Tryz.underlying174, ha, Result.andThen]

theorem AsF.methodElem (h : Value) (w : World) : (Go.method 596 396 (.agg #[h]) "Elem").run Tryz.prog w = .ok (392, .agg #[h]) w := by kernel_rfl
theorem AsF.methodImplements (h : Value) (w : World) : (Go.method 596 396 (.agg #[h]) "Implements").run Tryz.prog w = .ok (393, .agg #[h]) w := by kernel_rfl
theorem AsF.methodAssignableTo (h : Value) (w : World) : (Go.method 596 396 (.agg #[h]) "AssignableTo").run Tryz.prog w = .ok (390, .agg #[h]) w := by kernel_rfl
theorem AsF.elem27 (w : World) : (ReflectliteType.method ReflectliteType.elem #[.agg #[.pointer (some ⟨7, 174, none⟩)]]).run Tryz.prog w = .ok (.iface 396 (.agg #[.pointer (some ⟨7, 45, none⟩)])) w := by kernel_rfl
theorem AsF.implements25 (w : World) : (ReflectliteType.relation "Implements" ReflectliteType.implements_ #[.agg #[.pointer (some ⟨7, 45, none⟩)], .iface 396 (.agg #[.pointer (some ⟨7, 26, none⟩)])]).run Tryz.prog w = .ok (.bool true) w := by kernel_rfl
theorem AsF.typeOf25 (v : Value) (w : World) : (ReflectliteType.typeOf #[.iface 45 v]).run Tryz.prog w = .ok (.iface 396 (.agg #[.pointer (some ⟨7, 45, none⟩)])) w := by kernel_rfl
theorem AsF.assignable25 (w : World) : (ReflectliteType.relation "AssignableTo" ReflectliteType.assignableTo #[.agg #[.pointer (some ⟨7, 45, none⟩)], .iface 396 (.agg #[.pointer (some ⟨7, 45, none⟩)])]).run Tryz.prog w = .ok (.bool true) w := by kernel_rfl
theorem AsF.valueOf25 (e : Int) (w : World) : (ReflectliteValue.unpack (.iface 45 (.int .i64 e))).run Tryz.prog w
    = .ok (.agg #[.pointer (some ⟨7, 45, none⟩), .pointer (some ⟨w.heap.size, 0, none⟩), .int .u64 130]) (w.alloc (.cells #[.int .i64 e] 45)) := by kernel_rfl

theorem AsF.elemOf27 (w : World) : (Rtype.elem? 174).run Tryz.prog w = .ok (some 45) w := by kernel_rfl
theorem AsF.mk25 (p : Addr) (w : World) : (ReflectliteValue.mk 45 p ReflectliteValue.flagAddr).run Tryz.prog w = .ok (.agg #[.pointer (some ⟨7, 45, none⟩), .pointer (some p), .int .u64 386]) w := by kernel_rfl
/-- (Value).Elem at the Value of a **p.E that is not nil: the Value of the *p.E variable that it points to, addressable. -/
theorem AsF.elemV27 (a p : Addr) (W : World) (ha : W.cell? a = some (.pointer (some p))) :
    (ReflectliteValue.method (ReflectliteValue.valueError "reflectlite.Value.Elem" 0) ReflectliteValue.elem #[.agg #[.pointer (some ⟨7, 174, none⟩), .pointer (some a), .int .u64 150]]).run Tryz.prog W
      = .ok (.agg #[.pointer (some ⟨7, 45, none⟩), .pointer (some p), .int .u64 386]) W := by
  rw [rlm]
  simp only [Sem.run_bind, AsF.parts27, Result.andThen]
  simp [ReflectliteValue.elem, loadVar, isAgg, underlying, Tryz.underlying174, ha, Result.andThen, AsF.elemOf27, AsF.mk25]
theorem rls (v x : Value) : ReflectliteValue.set #[v, x] = (do
    let (some (dst, a, fl), some (src, b, _)) := (← ReflectliteValue.parts v, ← ReflectliteValue.parts x)
      | unsupported (.noEntry "extern/(internal/reflectlite.Value).Set.zeroValue")
    if fl / ReflectliteValue.flagAddr % 2 == 0 then unsupported (.noEntry "extern/(internal/reflectlite.Value).Set.unaddressable")
    let val ← loadVar src b
    if ← Rtype.directlyAssignable dst src then storeVar dst a val
    else if ← Rtype.implements dst src then
      if (← Rtype.kind src) == 20 then
        match val with
        | .nilIface => unsupported (.noEntry "extern/reflectlite: a nil value of one interface type handed on as a value of another")
        | _ => storeVar dst a val
      else storeVar dst a (.iface src val)
    else panicString ("reflectlite.Set: value of type " ++ (← Rtype.spelt src) ++ " is not assignable to type " ++ (← Rtype.spelt dst))
    pure (.tuple #[])) := rfl
theorem AsF.parts25a (a : Addr) (w : World) : (ReflectliteValue.parts (.agg #[.pointer (some ⟨7, 45, none⟩), .pointer (some a), .int .u64 386])).run Tryz.prog w = .ok (some (45, a, 386)) w := by kernel_rfl
theorem AsF.parts25 (a : Addr) (w : World) : (ReflectliteValue.parts (.agg #[.pointer (some ⟨7, 45, none⟩), .pointer (some a), .int .u64 130])).run Tryz.prog w = .ok (some (45, a, 130)) w := by kernel_rfl
theorem AsF.direct25 (w : World) : (Rtype.directlyAssignable 45 45).run Tryz.prog w = .ok true w := by kernel_rfl
theorem AsF.size25 (w : World) : (sizeOf 45).run Tryz.prog w = .ok 1 w := by kernel_rfl
/-- (Value).Set: the *p.E variable at 'ta' gets what the Value's own variable 'b' holds. -/
theorem AsF.set25 (ta b : Addr) (e : Int) (old : Value) (W : World) (hb : W.cell? b = some (.int .i64 e)) (ht : W.cell? ta = some old) (hf : W.frozen? ta = false) :
    (ReflectliteValue.set #[.agg #[.pointer (some ⟨7, 45, none⟩), .pointer (some ta), .int .u64 386], .agg #[.pointer (some ⟨7, 45, none⟩), .pointer (some b), .int .u64 130]]).run Tryz.prog W
      = .ok (.tuple #[]) (W.setCell ta (.int .i64 e)) := by
  rw [rls]
  simp only [Sem.run_bind, AsF.parts25a, AsF.parts25, Result.andThen]
  simp [ReflectliteValue.flagAddr, loadVar, isAgg, underlying, Tryz.underlying45, hb, Result.andThen, AsF.direct25, storeVar, Value.cells, storeCells, Addr.add]
  rw [run_store Tryz.prog W ta _ _ (by rfl)]
  simp [ht, hf]

set_option maxHeartbeats 4000000 in
theorem as_hit (e : Int) (t : Addr) (old : Value) (w : World) (hg : w.cell? ⟨0, 0, none⟩ = some (.iface 396 (.agg #[.pointer (some ⟨7, 26, none⟩)]))) (ht0 : w.cell? t = some old) (hf0 : w.frozen? t = false) :
    Calls Tryz.prog 95 #[.iface 45 (.int .i64 e), .iface 174 (.pointer (some t))] w fun ev w' => ev = .returned (.bool true) ∧ w' = ((((w.alloc (.cells #[.pointer (some t)] 174)).alloc (.cells #[.pointer (some ⟨7, 174, none⟩), .pointer (some ⟨w.heap.size, 0, none⟩), .int .u64 150] 306)).alloc (.cells #[.pointer (some ⟨7, 174, none⟩), .pointer (some ⟨w.heap.size, 0, none⟩), .int .u64 150] 306)).alloc (.cells #[.int .i64 e] 45)).setCell t (.int .i64 e) := by
  have h6 := @run_callFunc_extern Tryz.prog 204 _ (fun args => ReflectliteValue.unpack (args.getD 0 (.tuple #[]))) Tryz.func204 (by kernel_rfl) (by kernel_rfl) (by kernel_rfl) (by kernel_rfl)
  have h7 := @run_callFunc_extern Tryz.prog 205 _ (ReflectliteValue.methodAny (ReflectliteValue.valueError "reflectlite.Value.Type" 0) (fun t _ _ _ => ReflectliteType.toType t)) Tryz.func205 (by kernel_rfl) (by kernel_rfl) (by kernel_rfl) (by kernel_rfl)
  have h8 := @run_callFunc_extern Tryz.prog 206 _ (ReflectliteValue.method (ReflectliteValue.valueError "reflectlite.Value.IsNil" 0) ReflectliteValue.isNil) Tryz.func206 (by kernel_rfl) (by kernel_rfl) (by kernel_rfl) (by kernel_rfl)
  have h27 := @run_callFunc_extern Tryz.prog 376 _ (ReflectliteType.abiMethod fun t => do pure (.int .u8 (← Rtype.kind t))) Tryz.func376 (by kernel_rfl) (by kernel_rfl) (by kernel_rfl) (by kernel_rfl)
  have h37 := @run_callFunc_extern Tryz.prog 392 _ (ReflectliteType.method ReflectliteType.elem) Tryz.func392 (by kernel_rfl) (by kernel_rfl) (by kernel_rfl) (by kernel_rfl)
  have h38 := @run_callFunc_extern Tryz.prog 393 _ (ReflectliteType.relation "Implements" ReflectliteType.implements_) Tryz.func393 (by kernel_rfl) (by kernel_rfl) (by kernel_rfl) (by kernel_rfl)
  have h10 := @run_callFunc_extern Tryz.prog 287 _ ReflectliteType.typeOf Tryz.func287 (by kernel_rfl) (by kernel_rfl) (by kernel_rfl) (by kernel_rfl)
  have h35 := @run_callFunc_extern Tryz.prog 390 _ (ReflectliteType.relation "AssignableTo" ReflectliteType.assignableTo) Tryz.func390 (by kernel_rfl) (by kernel_rfl) (by kernel_rfl) (by kernel_rfl)
  have h11 := @run_callFunc_extern Tryz.prog 288 _ (ReflectliteValue.method (ReflectliteValue.valueError "reflectlite.Value.Elem" 0) ReflectliteValue.elem) Tryz.func288 (by kernel_rfl) (by kernel_rfl) (by kernel_rfl) (by kernel_rfl)
  have h12 := @run_callFunc_extern Tryz.prog 289 _ ReflectliteValue.set Tryz.func289 (by kernel_rfl) (by kernel_rfl) (by kernel_rfl) (by kernel_rfl)
  have tO := AsF.typeOf25
  have mA := AsF.methodAssignableTo
  have a25 := AsF.assignable25
  have v25 := AsF.valueOf25
  have f6 := AsF.valueOf27
  have f7 := AsF.type27
  have mK := AsF.methodKind
  have mE := AsF.methodElem
  have mI := AsF.methodImplements
  have k27 := AsF.kind27
  have k25 := AsF.kind25
  have e27 := AsF.elem27
  have i25 := AsF.implements25
  have n8 := AsF.isNil27 ⟨w.heap.size, 0, none⟩ t ((w.alloc (.cells #[.pointer (some t)] 174)).alloc (.cells #[.pointer (some ⟨7, 174, none⟩), .pointer (some ⟨w.heap.size, 0, none⟩), .int .u64 150] 306)) (by simp)
  have hlt : (⟨0, 0, none⟩ : Addr).block < w.heap.size := World.block_lt_of_cell? _ _ hg
  have hg2 : ((w.alloc (.cells #[.pointer (some t)] 174)).alloc (.cells #[.pointer (some ⟨7, 174, none⟩), .pointer (some ⟨w.heap.size, 0, none⟩), .int .u64 150] 306)).cell? ⟨0, 0, none⟩ = some (.iface 396 (.agg #[.pointer (some ⟨7, 26, none⟩)])) := by
    rw [World.cell?_alloc_lt _ _ ⟨0, 0, none⟩ (by simp only [World.size_alloc]; exact Nat.lt_succ_of_lt hlt), World.cell?_alloc_lt _ _ ⟨0, 0, none⟩ hlt]; exact hg
  have htl : t.block < w.heap.size := by
    rcases Nat.lt_or_ge t.block w.heap.size with h | h
    · exact h
    · simp [World.cell?, Array.getElem?_eq_none h] at ht0
  have el := AsF.elemV27 ⟨w.heap.size, 0, none⟩ t (((w.alloc (.cells #[.pointer (some t)] 174)).alloc (.cells #[.pointer (some ⟨7, 174, none⟩), .pointer (some ⟨w.heap.size, 0, none⟩), .int .u64 150] 306)).alloc (.cells #[.pointer (some ⟨7, 174, none⟩), .pointer (some ⟨w.heap.size, 0, none⟩), .int .u64 150] 306)) (by rw [World.cell?_alloc_lt _ _ ⟨w.heap.size, 0, none⟩ (by simp; omega)]; simp)
  have st := AsF.set25 t ⟨w.heap.size + 1 + 1 + 1, 0, none⟩ e old ((((w.alloc (.cells #[.pointer (some t)] 174)).alloc (.cells #[.pointer (some ⟨7, 174, none⟩), .pointer (some ⟨w.heap.size, 0, none⟩), .int .u64 150] 306)).alloc (.cells #[.pointer (some ⟨7, 174, none⟩), .pointer (some ⟨w.heap.size, 0, none⟩), .int .u64 150] 306)).alloc (.cells #[.int .i64 e] 45))
    (by rw [World.cell?_alloc_at _ _ _ _ (by simp)]; rfl)
    (by rw [World.cell?_alloc_lt _ _ t (by simp; omega), World.cell?_alloc_lt _ _ t (by simp; omega), World.cell?_alloc_lt _ _ t (by simp; omega), World.cell?_alloc_lt _ _ t htl]; exact ht0)
    (by rw [World.frozen?_alloc_old _ _ t (by simp; omega), World.frozen?_alloc_old _ _ t (by simp; omega), World.frozen?_alloc_old _ _ t (by simp; omega), World.frozen?_alloc_old _ _ t (Nat.ne_of_lt htl)]; exact hf0)
  go_enter Tryz.func95, Tryz.ntmps95
  go_wp2
  refine wp_loop_rounds 1 ?_
  rw [rounds_succ]
  go_wp2
  go_ret
  exact ⟨rfl, rfl⟩
end Go.Proofs.YtiohpmcedfbcgacGreatDoor
/- api.Tell: of nil; of an api.Errno. Condition: the variable errors.errorType holds what is laid ('Laid'). -/
namespace Go.Proofs.YtiohpmcedfbcgacGreatDoor
open Go.RowKit
set_option linter.unusedVariables false

/-- The variable errors.errorType holds what the program's text lays. -/
def Laid (w : World) : Prop := w.cell? ⟨0, 0, none⟩ = some (.iface 396 (.agg #[.pointer (some ⟨7, 26, none⟩)]))

theorem Laid.turned {S : Nat → Prop} {w w1 : World} (h : Laid w) (t : Turn S w w1) (hn : ¬ S 0) : Laid w1 := by
  unfold Laid at h ⊢
  rw [t.cell (lt_of_cell h) hn]; exact h

theorem Laid.turned0 {w w1 : World} (h : Laid w) (t : Turn (fun _ => False) w w1) : Laid w1 := h.turned t id

theorem Laid.lt {w : World} (h : Laid w) : 0 < w.heap.size := lt_of_cell h

theorem tell_nil (w : World) : Calls Tryz.prog 27 #[.nilIface] w fun e w' => e = .returned (.int .i64 0) ∧ w' = w := by
  go_enter Tryz.func27, Tryz.ntmps27
  go_wp2
  go_ret
  exact ⟨rfl, rfl⟩

set_option maxRecDepth 100000 in
theorem tell_errno (z : Int) (w : World) (hg : Laid w) :
    Calls Tryz.prog 27 #[.iface 45 (.int .i64 z)] w fun e w' => e = .returned (.int .i64 z) ∧ Turn (fun _ => False) w w' := by
  have hlt := hg.lt
  have ha := as_hit z ⟨w.heap.size, 0, none⟩ (.int .i64 0) (w.alloc (.cells #[.int .i64 0] 45)) (by rw [World.cell?_alloc_lt _ _ _ hlt]; exact hg) (by simp) (by simp)
  go_enter Tryz.func27, Tryz.ntmps27
  go_wp2_with fail
  refine ha.mono ?_
  rintro e w1 ⟨rfl, rfl⟩
  go_wp2_with fail
  go_ret
  refine ⟨rfl, ?_⟩
  exact ((((Turn.refl _ _).alloc _).alloc _).alloc _ |>.alloc _).alloc _
end Go.Proofs.YtiohpmcedfbcgacGreatDoor
/- errors.As at the target *api.Errno, of an *api.At: one Unwrap, then the api.Errno in it. Condition: the variable errors.errorType holds what is laid; the At lies in memory. -/
namespace Go.Proofs.YtiohpmcedfbcgacGreatDoor
open Go.RowKit Go.Extern.Stop Go.Stop Go.Extern
set_option linter.unusedVariables false

theorem AsF.typeOfAt (v : Value) (w : World) : (ReflectliteType.typeOf #[.iface 343 v]).run Tryz.prog w = .ok (.iface 396 (.agg #[.pointer (some ⟨7, 343, none⟩)])) w := by kernel_rfl
theorem AsF.assignableAt (w : World) : (ReflectliteType.relation "AssignableTo" ReflectliteType.assignableTo #[.agg #[.pointer (some ⟨7, 343, none⟩)], .iface 396 (.agg #[.pointer (some ⟨7, 45, none⟩)])]).run Tryz.prog w = .ok (.bool false) w := by kernel_rfl
theorem AsF.noAs (v : Value) (xT : TypeId) (w : World) : (Instr.typeAssert (.iface 343 v) xT 401 true).run Tryz.prog w = .ok (.tuple #[.nilIface, .bool false]) w := run_typeAssert_lacksB Tryz.underlying401 (by kernel_rfl) (by kernel_rfl) v xT w
theorem AsF.hasUnwrap (v : Value) (xT : TypeId) (w : World) : (Instr.typeAssert (.iface 343 v) xT 404 true).run Tryz.prog w = .ok (.tuple #[.iface 343 v, .bool true]) w := run_typeAssert_hasB Tryz.underlying404 (by kernel_rfl) v xT w
theorem AsF.methodUnwrap (a : Addr) (w : World) : (Go.method 596 343 (.pointer (some a)) "Unwrap").run Tryz.prog w = .ok (388, .pointer (some a)) w := by kernel_rfl

set_option maxHeartbeats 4000000 in
theorem as_at (e : Int) (at_ : Nat) (t : Addr) (old : Value) (w : World) (hg : w.cell? ⟨0, 0, none⟩ = some (.iface 396 (.agg #[.pointer (some ⟨7, 26, none⟩)]))) (ht0 : w.cell? t = some old) (hf0 : w.frozen? t = false) (hat : w.cell? ⟨at_, 0, none⟩ = some (.int .i64 e)) :
    Calls Tryz.prog 95 #[.iface 343 (.pointer (some ⟨at_, 0, none⟩)), .iface 174 (.pointer (some t))] w fun ev w' => ev = .returned (.bool true) ∧ w' = ((((w.alloc (.cells #[.pointer (some t)] 174)).alloc (.cells #[.pointer (some ⟨7, 174, none⟩), .pointer (some ⟨w.heap.size, 0, none⟩), .int .u64 150] 306)).alloc (.cells #[.pointer (some ⟨7, 174, none⟩), .pointer (some ⟨w.heap.size, 0, none⟩), .int .u64 150] 306)).alloc (.cells #[.int .i64 e] 45)).setCell t (.int .i64 e) := by
  have h6 := @run_callFunc_extern Tryz.prog 204 _ (fun args => ReflectliteValue.unpack (args.getD 0 (.tuple #[]))) Tryz.func204 (by kernel_rfl) (by kernel_rfl) (by kernel_rfl) (by kernel_rfl)
  have h7 := @run_callFunc_extern Tryz.prog 205 _ (ReflectliteValue.methodAny (ReflectliteValue.valueError "reflectlite.Value.Type" 0) (fun t _ _ _ => ReflectliteType.toType t)) Tryz.func205 (by kernel_rfl) (by kernel_rfl) (by kernel_rfl) (by kernel_rfl)
  have h8 := @run_callFunc_extern Tryz.prog 206 _ (ReflectliteValue.method (ReflectliteValue.valueError "reflectlite.Value.IsNil" 0) ReflectliteValue.isNil) Tryz.func206 (by kernel_rfl) (by kernel_rfl) (by kernel_rfl) (by kernel_rfl)
  have h27 := @run_callFunc_extern Tryz.prog 376 _ (ReflectliteType.abiMethod fun t => do pure (.int .u8 (← Rtype.kind t))) Tryz.func376 (by kernel_rfl) (by kernel_rfl) (by kernel_rfl) (by kernel_rfl)
  have h37 := @run_callFunc_extern Tryz.prog 392 _ (ReflectliteType.method ReflectliteType.elem) Tryz.func392 (by kernel_rfl) (by kernel_rfl) (by kernel_rfl) (by kernel_rfl)
  have h38 := @run_callFunc_extern Tryz.prog 393 _ (ReflectliteType.relation "Implements" ReflectliteType.implements_) Tryz.func393 (by kernel_rfl) (by kernel_rfl) (by kernel_rfl) (by kernel_rfl)
  have h10 := @run_callFunc_extern Tryz.prog 287 _ ReflectliteType.typeOf Tryz.func287 (by kernel_rfl) (by kernel_rfl) (by kernel_rfl) (by kernel_rfl)
  have h35 := @run_callFunc_extern Tryz.prog 390 _ (ReflectliteType.relation "AssignableTo" ReflectliteType.assignableTo) Tryz.func390 (by kernel_rfl) (by kernel_rfl) (by kernel_rfl) (by kernel_rfl)
  have h11 := @run_callFunc_extern Tryz.prog 288 _ (ReflectliteValue.method (ReflectliteValue.valueError "reflectlite.Value.Elem" 0) ReflectliteValue.elem) Tryz.func288 (by kernel_rfl) (by kernel_rfl) (by kernel_rfl) (by kernel_rfl)
  have h12 := @run_callFunc_extern Tryz.prog 289 _ ReflectliteValue.set Tryz.func289 (by kernel_rfl) (by kernel_rfl) (by kernel_rfl) (by kernel_rfl)
  have tO := AsF.typeOf25
  have tA := AsF.typeOfAt
  have aA := AsF.assignableAt
  have nA := AsF.noAs
  have hU := AsF.hasUnwrap
  have mU := AsF.methodUnwrap
  have hatl : (⟨at_, 0, none⟩ : Addr).block < w.heap.size := World.block_lt_of_cell? _ _ hat
  have mA := AsF.methodAssignableTo
  have a25 := AsF.assignable25
  have v25 := AsF.valueOf25
  have f6 := AsF.valueOf27
  have f7 := AsF.type27
  have mK := AsF.methodKind
  have mE := AsF.methodElem
  have mI := AsF.methodImplements
  have k27 := AsF.kind27
  have k25 := AsF.kind25
  have e27 := AsF.elem27
  have i25 := AsF.implements25
  have n8 := AsF.isNil27 ⟨w.heap.size, 0, none⟩ t ((w.alloc (.cells #[.pointer (some t)] 174)).alloc (.cells #[.pointer (some ⟨7, 174, none⟩), .pointer (some ⟨w.heap.size, 0, none⟩), .int .u64 150] 306)) (by simp)
  have hlt : (⟨0, 0, none⟩ : Addr).block < w.heap.size := World.block_lt_of_cell? _ _ hg
  have hg2 : ((w.alloc (.cells #[.pointer (some t)] 174)).alloc (.cells #[.pointer (some ⟨7, 174, none⟩), .pointer (some ⟨w.heap.size, 0, none⟩), .int .u64 150] 306)).cell? ⟨0, 0, none⟩ = some (.iface 396 (.agg #[.pointer (some ⟨7, 26, none⟩)])) := by
    rw [World.cell?_alloc_lt _ _ ⟨0, 0, none⟩ (by simp only [World.size_alloc]; exact Nat.lt_succ_of_lt hlt), World.cell?_alloc_lt _ _ ⟨0, 0, none⟩ hlt]; exact hg
  have htl : t.block < w.heap.size := by
    rcases Nat.lt_or_ge t.block w.heap.size with h | h
    · exact h
    · simp [World.cell?, Array.getElem?_eq_none h] at ht0
  have el := AsF.elemV27 ⟨w.heap.size, 0, none⟩ t (((w.alloc (.cells #[.pointer (some t)] 174)).alloc (.cells #[.pointer (some ⟨7, 174, none⟩), .pointer (some ⟨w.heap.size, 0, none⟩), .int .u64 150] 306)).alloc (.cells #[.pointer (some ⟨7, 174, none⟩), .pointer (some ⟨w.heap.size, 0, none⟩), .int .u64 150] 306)) (by rw [World.cell?_alloc_lt _ _ ⟨w.heap.size, 0, none⟩ (by simp; omega)]; simp)
  have st := AsF.set25 t ⟨w.heap.size + 1 + 1 + 1, 0, none⟩ e old ((((w.alloc (.cells #[.pointer (some t)] 174)).alloc (.cells #[.pointer (some ⟨7, 174, none⟩), .pointer (some ⟨w.heap.size, 0, none⟩), .int .u64 150] 306)).alloc (.cells #[.pointer (some ⟨7, 174, none⟩), .pointer (some ⟨w.heap.size, 0, none⟩), .int .u64 150] 306)).alloc (.cells #[.int .i64 e] 45))
    (by rw [World.cell?_alloc_at _ _ _ _ (by simp)]; rfl)
    (by rw [World.cell?_alloc_lt _ _ t (by simp; omega), World.cell?_alloc_lt _ _ t (by simp; omega), World.cell?_alloc_lt _ _ t (by simp; omega), World.cell?_alloc_lt _ _ t htl]; exact ht0)
    (by rw [World.frozen?_alloc_old _ _ t (by simp; omega), World.frozen?_alloc_old _ _ t (by simp; omega), World.frozen?_alloc_old _ _ t (by simp; omega), World.frozen?_alloc_old _ _ t (Nat.ne_of_lt htl)]; exact hf0)
  have hat3 : (((w.alloc (.cells #[.pointer (some t)] 174)).alloc (.cells #[.pointer (some ⟨7, 174, none⟩), .pointer (some ⟨w.heap.size, 0, none⟩), .int .u64 150] 306)).alloc (.cells #[.pointer (some ⟨7, 174, none⟩), .pointer (some ⟨w.heap.size, 0, none⟩), .int .u64 150] 306)).cell? ⟨at_, 0, none⟩ = some (.int .i64 e) := by
    rw [World.cell?_alloc_lt _ _ ⟨at_, 0, none⟩ (by simp only [World.size_alloc]; exact Nat.lt_succ_of_lt (Nat.lt_succ_of_lt hatl)), World.cell?_alloc_lt _ _ ⟨at_, 0, none⟩ (by simp only [World.size_alloc]; exact Nat.lt_succ_of_lt hatl), World.cell?_alloc_lt _ _ ⟨at_, 0, none⟩ hatl]; exact hat
  go_enter Tryz.func95, Tryz.ntmps95
  go_wp2
  refine wp_loop_rounds 2 ?_
  rw [rounds_succ]
  go_wp2
  rw [rounds_succ]
  go_wp2
  go_ret
  exact ⟨rfl, rfl⟩

set_option maxRecDepth 100000 in
theorem tell_at (z : Int) (b : Nat) (w : World) (hg : Laid w) (hat : w.cell? ⟨b, 0, none⟩ = some (.int .i64 z)) :
    Calls Tryz.prog 27 #[.iface 343 (.pointer (some ⟨b, 0, none⟩))] w fun e w' => e = .returned (.int .i64 z) ∧ Turn (fun _ => False) w w' := by
  have hlt := hg.lt
  have ha := as_at z b ⟨w.heap.size, 0, none⟩ (.int .i64 0) (w.alloc (.cells #[.int .i64 0] 45)) (by rw [World.cell?_alloc_lt _ _ _ hlt]; exact hg) (by simp) (by simp) (by rw [World.cell?_alloc_lt _ _ _ (lt_of_cell hat)]; exact hat)
  go_enter Tryz.func27, Tryz.ntmps27
  go_wp2_with fail
  refine ha.mono ?_
  rintro e w1 ⟨rfl, rfl⟩
  go_wp2_with fail
  go_ret
  refine ⟨rfl, ?_⟩
  exact ((((Turn.refl _ _).alloc _).alloc _).alloc _ |>.alloc _).alloc _
end Go.Proofs.YtiohpmcedfbcgacGreatDoor
