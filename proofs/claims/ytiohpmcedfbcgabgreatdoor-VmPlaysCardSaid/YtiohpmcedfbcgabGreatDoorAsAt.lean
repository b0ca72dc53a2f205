/- errors.As at the target *api.Errno, of an *api.At: one Unwrap, then the api.Errno in it. Condition: the variable errors.errorType holds what is laid; the At lies in memory. -/
import Derived.Test.YtiohpmcedfbcgabGreatDoorAs
namespace Go.Proofs.YtiohpmcedfbcgabGreatDoor
open Go.RowKit Go.Extern.Stop Go.Stop Go.Extern
set_option linter.unusedVariables false

theorem AsF.typeOfAt (v : Value) (w : World) : (ReflectliteType.typeOf #[.iface 320 v]).run Tryz.prog w = .ok (.iface 462 (.agg #[.pointer (some ⟨9, 320, none⟩)])) w := by kernel_rfl
theorem AsF.assignableAt (w : World) : (ReflectliteType.relation "AssignableTo" ReflectliteType.assignableTo #[.agg #[.pointer (some ⟨9, 320, none⟩)], .iface 462 (.agg #[.pointer (some ⟨9, 28, none⟩)])]).run Tryz.prog w = .ok (.bool false) w := by kernel_rfl
theorem AsF.noAs (v : Value) (xT : TypeId) (w : World) : (Instr.typeAssert (.iface 320 v) xT 467 true).run Tryz.prog w = .ok (.tuple #[.nilIface, .bool false]) w := run_typeAssert_lacksB Tryz.underlying467 (by kernel_rfl) (by kernel_rfl) v xT w
theorem AsF.hasUnwrap (v : Value) (xT : TypeId) (w : World) : (Instr.typeAssert (.iface 320 v) xT 323 true).run Tryz.prog w = .ok (.tuple #[.iface 320 v, .bool true]) w := run_typeAssert_hasB Tryz.underlying323 (by kernel_rfl) v xT w
theorem AsF.methodUnwrap (a : Addr) (w : World) : (Go.method 649 320 (.pointer (some a)) "Unwrap").run Tryz.prog w = .ok (428, .pointer (some a)) w := by kernel_rfl

set_option maxHeartbeats 4000000 in
theorem as_at (e : Int) (at_ : Nat) (t : Addr) (old : Value) (w : World) (hg : w.cell? ⟨0, 0, none⟩ = some (.iface 462 (.agg #[.pointer (some ⟨9, 24, none⟩)]))) (ht0 : w.cell? t = some old) (hf0 : w.frozen? t = false) (hat : w.cell? ⟨at_, 0, none⟩ = some (.int .i64 e)) :
    Calls Tryz.prog 215 #[.iface 320 (.pointer (some ⟨at_, 0, none⟩)), .iface 350 (.pointer (some t))] w fun ev w' => ev = .returned (.bool true) ∧ w' = ((((w.alloc (.cells #[.pointer (some t)] 350)).alloc (.cells #[.pointer (some ⟨9, 350, none⟩), .pointer (some ⟨w.heap.size, 0, none⟩), .int .u64 150] 410)).alloc (.cells #[.pointer (some ⟨9, 350, none⟩), .pointer (some ⟨w.heap.size, 0, none⟩), .int .u64 150] 410)).alloc (.cells #[.int .i64 e] 28)).setCell t (.int .i64 e) := by
  have h6 := @run_callFunc_extern Tryz.prog 273 _ (fun args => ReflectliteValue.unpack (args.getD 0 (.tuple #[]))) Tryz.func273 (by kernel_rfl) (by kernel_rfl) (by kernel_rfl) (by kernel_rfl)
  have h7 := @run_callFunc_extern Tryz.prog 274 _ (ReflectliteValue.methodAny (ReflectliteValue.valueError "reflectlite.Value.Type" 0) (fun t _ _ _ => ReflectliteType.toType t)) Tryz.func274 (by kernel_rfl) (by kernel_rfl) (by kernel_rfl) (by kernel_rfl)
  have h8 := @run_callFunc_extern Tryz.prog 275 _ (ReflectliteValue.method (ReflectliteValue.valueError "reflectlite.Value.IsNil" 0) ReflectliteValue.isNil) Tryz.func275 (by kernel_rfl) (by kernel_rfl) (by kernel_rfl) (by kernel_rfl)
  have h27 := @run_callFunc_extern Tryz.prog 420 _ (ReflectliteType.abiMethod fun t => do pure (.int .u8 (← Rtype.kind t))) Tryz.func420 (by kernel_rfl) (by kernel_rfl) (by kernel_rfl) (by kernel_rfl)
  have h37 := @run_callFunc_extern Tryz.prog 439 _ (ReflectliteType.method ReflectliteType.elem) Tryz.func439 (by kernel_rfl) (by kernel_rfl) (by kernel_rfl) (by kernel_rfl)
  have h38 := @run_callFunc_extern Tryz.prog 440 _ (ReflectliteType.relation "Implements" ReflectliteType.implements_) Tryz.func440 (by kernel_rfl) (by kernel_rfl) (by kernel_rfl) (by kernel_rfl)
  have h10 := @run_callFunc_extern Tryz.prog 340 _ ReflectliteType.typeOf Tryz.func340 (by kernel_rfl) (by kernel_rfl) (by kernel_rfl) (by kernel_rfl)
  have h35 := @run_callFunc_extern Tryz.prog 437 _ (ReflectliteType.relation "AssignableTo" ReflectliteType.assignableTo) Tryz.func437 (by kernel_rfl) (by kernel_rfl) (by kernel_rfl) (by kernel_rfl)
  have h11 := @run_callFunc_extern Tryz.prog 341 _ (ReflectliteValue.method (ReflectliteValue.valueError "reflectlite.Value.Elem" 0) ReflectliteValue.elem) Tryz.func341 (by kernel_rfl) (by kernel_rfl) (by kernel_rfl) (by kernel_rfl)
  have h12 := @run_callFunc_extern Tryz.prog 342 _ ReflectliteValue.set Tryz.func342 (by kernel_rfl) (by kernel_rfl) (by kernel_rfl) (by kernel_rfl)
  have tO := AsF.typeOf25
  have tA := AsF.typeOfAt
  have aA := AsF.assignableAt
  have nA := AsF.noAs
  have hU := AsF.hasUnwrap
  have mU := AsF.methodUnwrap
  have hatl : (⟨at_, 0, none⟩ : Addr).block < w.heap.size := World.block_lt_of_cell? _ _ hat
  have mA := AsF.methodAssignableTo
  have a25 := AsF.assignable25
  have v25 := AsF.valueOf25
  have f6 := AsF.valueOf27
  have f7 := AsF.type27
  have mK := AsF.methodKind
  have mE := AsF.methodElem
  have mI := AsF.methodImplements
  have k27 := AsF.kind27
  have k25 := AsF.kind25
  have e27 := AsF.elem27
  have i25 := AsF.implements25
  have n8 := AsF.isNil27 ⟨w.heap.size, 0, none⟩ t ((w.alloc (.cells #[.pointer (some t)] 350)).alloc (.cells #[.pointer (some ⟨9, 350, none⟩), .pointer (some ⟨w.heap.size, 0, none⟩), .int .u64 150] 410)) (by simp)
  have hlt : (⟨0, 0, none⟩ : Addr).block < w.heap.size := World.block_lt_of_cell? _ _ hg
  have hg2 : ((w.alloc (.cells #[.pointer (some t)] 350)).alloc (.cells #[.pointer (some ⟨9, 350, none⟩), .pointer (some ⟨w.heap.size, 0, none⟩), .int .u64 150] 410)).cell? ⟨0, 0, none⟩ = some (.iface 462 (.agg #[.pointer (some ⟨9, 24, none⟩)])) := by
    rw [World.cell?_alloc_lt _ _ ⟨0, 0, none⟩ (by simp only [World.size_alloc]; exact Nat.lt_succ_of_lt hlt), World.cell?_alloc_lt _ _ ⟨0, 0, none⟩ hlt]; exact hg
  have htl : t.block < w.heap.size := by
    rcases Nat.lt_or_ge t.block w.heap.size with h | h
    · exact h
    · simp [World.cell?, Array.getElem?_eq_none h] at ht0
  have el := AsF.elemV27 ⟨w.heap.size, 0, none⟩ t (((w.alloc (.cells #[.pointer (some t)] 350)).alloc (.cells #[.pointer (some ⟨9, 350, none⟩), .pointer (some ⟨w.heap.size, 0, none⟩), .int .u64 150] 410)).alloc (.cells #[.pointer (some ⟨9, 350, none⟩), .pointer (some ⟨w.heap.size, 0, none⟩), .int .u64 150] 410)) (by rw [World.cell?_alloc_lt _ _ ⟨w.heap.size, 0, none⟩ (by simp; omega)]; simp)
  have st := AsF.set25 t ⟨w.heap.size + 1 + 1 + 1, 0, none⟩ e old ((((w.alloc (.cells #[.pointer (some t)] 350)).alloc (.cells #[.pointer (some ⟨9, 350, none⟩), .pointer (some ⟨w.heap.size, 0, none⟩), .int .u64 150] 410)).alloc (.cells #[.pointer (some ⟨9, 350, none⟩), .pointer (some ⟨w.heap.size, 0, none⟩), .int .u64 150] 410)).alloc (.cells #[.int .i64 e] 28))
    (by rw [World.cell?_alloc_at _ _ _ _ (by simp)]; rfl)
    (by rw [World.cell?_alloc_lt _ _ t (by simp; omega), World.cell?_alloc_lt _ _ t (by simp; omega), World.cell?_alloc_lt _ _ t (by simp; omega), World.cell?_alloc_lt _ _ t htl]; exact ht0)
    (by rw [World.frozen?_alloc_old _ _ t (by simp; omega), World.frozen?_alloc_old _ _ t (by simp; omega), World.frozen?_alloc_old _ _ t (by simp; omega), World.frozen?_alloc_old _ _ t (Nat.ne_of_lt htl)]; exact hf0)
  have hat3 : (((w.alloc (.cells #[.pointer (some t)] 350)).alloc (.cells #[.pointer (some ⟨9, 350, none⟩), .pointer (some ⟨w.heap.size, 0, none⟩), .int .u64 150] 410)).alloc (.cells #[.pointer (some ⟨9, 350, none⟩), .pointer (some ⟨w.heap.size, 0, none⟩), .int .u64 150] 410)).cell? ⟨at_, 0, none⟩ = some (.int .i64 e) := by
    rw [World.cell?_alloc_lt _ _ ⟨at_, 0, none⟩ (by simp only [World.size_alloc]; exact Nat.lt_succ_of_lt (Nat.lt_succ_of_lt hatl)), World.cell?_alloc_lt _ _ ⟨at_, 0, none⟩ (by simp only [World.size_alloc]; exact Nat.lt_succ_of_lt hatl), World.cell?_alloc_lt _ _ ⟨at_, 0, none⟩ hatl]; exact hat
  go_enter Tryz.func215, Tryz.ntmps215
  go_wp2
  refine wp_loop_rounds 2 ?_
  rw [rounds_succ]
  go_wp2
  rw [rounds_succ]
  go_wp2
  go_ret
  exact ⟨rfl, rfl⟩

set_option maxRecDepth 100000 in
theorem tell_at (z : Int) (b : Nat) (w : World) (hg : Laid w) (hat : w.cell? ⟨b, 0, none⟩ = some (.int .i64 z)) :
    Calls Tryz.prog 144 #[.iface 320 (.pointer (some ⟨b, 0, none⟩))] w fun e w' => e = .returned (.int .i64 z) ∧ Turn (fun _ => False) w w' := by
  have hlt := hg.lt
  have ha := as_at z b ⟨w.heap.size, 0, none⟩ (.int .i64 0) (w.alloc (.cells #[.int .i64 0] 28)) (by rw [World.cell?_alloc_lt _ _ _ hlt]; exact hg) (by simp) (by simp) (by rw [World.cell?_alloc_lt _ _ _ (lt_of_cell hat)]; exact hat)
  go_enter Tryz.func144, Tryz.ntmps144
  go_wp2_with fail
  refine ha.mono ?_
  rintro e w1 ⟨rfl, rfl⟩
  go_wp2_with fail
  go_ret
  refine ⟨rfl, ?_⟩
  exact ((((Turn.refl _ _).alloc _).alloc _).alloc _ |>.alloc _).alloc _
end Go.Proofs.YtiohpmcedfbcgabGreatDoor
