/- errors.As at the target *api.Errno, of an *api.At: one Unwrap, then the api.Errno in it. Condition: the variable errors.errorType holds what is laid; the At lies in memory. -/
import Derived.Test.YtiohpmcedfbcgabDoorTell
namespace Go.Proofs.YtiohpmcedfbcgabDoor
open Go.RowKit Go.Extern.Stop Go.Stop Go.Extern
set_option linter.unusedVariables false

theorem AsF.typeOfAt (v : Value) (w : World) : (ReflectliteType.typeOf #[.iface 302 v]).run Tryd.prog w = .ok (.iface 289 (.agg #[.pointer (some ⟨4, 302, none⟩)])) w := by kernel_rfl
theorem AsF.assignableAt (w : World) : (ReflectliteType.relation "AssignableTo" ReflectliteType.assignableTo #[.agg #[.pointer (some ⟨4, 302, none⟩)], .iface 289 (.agg #[.pointer (some ⟨4, 40, none⟩)])]).run Tryd.prog w = .ok (.bool false) w := by kernel_rfl
theorem AsF.noAs (v : Value) (xT : TypeId) (w : World) : (Instr.typeAssert (.iface 302 v) xT 294 true).run Tryd.prog w = .ok (.tuple #[.nilIface, .bool false]) w := run_typeAssert_lacksB Tryd.underlying294 (by kernel_rfl) (by kernel_rfl) v xT w
theorem AsF.hasUnwrap (v : Value) (xT : TypeId) (w : World) : (Instr.typeAssert (.iface 302 v) xT 297 true).run Tryd.prog w = .ok (.tuple #[.iface 302 v, .bool true]) w := run_typeAssert_hasB Tryd.underlying297 (by kernel_rfl) v xT w
theorem AsF.methodUnwrap (a : Addr) (w : World) : (Go.method 479 302 (.pointer (some a)) "Unwrap").run Tryd.prog w = .ok (294, .pointer (some a)) w := by kernel_rfl

set_option maxHeartbeats 4000000 in
theorem as_at (e : Int) (at_ : Nat) (t : Addr) (old : Value) (w : World) (hg : w.cell? ⟨0, 0, none⟩ = some (.iface 289 (.agg #[.pointer (some ⟨4, 27, none⟩)]))) (ht0 : w.cell? t = some old) (hf0 : w.frozen? t = false) (hat : w.cell? ⟨at_, 0, none⟩ = some (.int .i64 e)) :
    Calls Tryd.prog 102 #[.iface 302 (.pointer (some ⟨at_, 0, none⟩)), .iface 152 (.pointer (some t))] w fun ev w' => ev = .returned (.bool true) ∧ w' = ((((w.alloc (.cells #[.pointer (some t)] 152)).alloc (.cells #[.pointer (some ⟨4, 152, none⟩), .pointer (some ⟨w.heap.size, 0, none⟩), .int .u64 150] 241)).alloc (.cells #[.pointer (some ⟨4, 152, none⟩), .pointer (some ⟨w.heap.size, 0, none⟩), .int .u64 150] 241)).alloc (.cells #[.int .i64 e] 40)).setCell t (.int .i64 e) := by
  have h6 := @run_callFunc_extern Tryd.prog 152 _ (fun args => ReflectliteValue.unpack (args.getD 0 (.tuple #[]))) Tryd.func152 (by kernel_rfl) (by kernel_rfl) (by kernel_rfl) (by kernel_rfl)
  have h7 := @run_callFunc_extern Tryd.prog 153 _ (ReflectliteValue.methodAny (ReflectliteValue.valueError "reflectlite.Value.Type" 0) (fun t _ _ _ => ReflectliteType.toType t)) Tryd.func153 (by kernel_rfl) (by kernel_rfl) (by kernel_rfl) (by kernel_rfl)
  have h8 := @run_callFunc_extern Tryd.prog 154 _ (ReflectliteValue.method (ReflectliteValue.valueError "reflectlite.Value.IsNil" 0) ReflectliteValue.isNil) Tryd.func154 (by kernel_rfl) (by kernel_rfl) (by kernel_rfl) (by kernel_rfl)
  have h27 := @run_callFunc_extern Tryd.prog 271 _ (ReflectliteType.abiMethod fun t => do pure (.int .u8 (← Rtype.kind t))) Tryd.func271 (by kernel_rfl) (by kernel_rfl) (by kernel_rfl) (by kernel_rfl)
  have h37 := @run_callFunc_extern Tryd.prog 285 _ (ReflectliteType.method ReflectliteType.elem) Tryd.func285 (by kernel_rfl) (by kernel_rfl) (by kernel_rfl) (by kernel_rfl)
  have h38 := @run_callFunc_extern Tryd.prog 286 _ (ReflectliteType.relation "Implements" ReflectliteType.implements_) Tryd.func286 (by kernel_rfl) (by kernel_rfl) (by kernel_rfl) (by kernel_rfl)
  have h10 := @run_callFunc_extern Tryd.prog 193 _ ReflectliteType.typeOf Tryd.func193 (by kernel_rfl) (by kernel_rfl) (by kernel_rfl) (by kernel_rfl)
  have h35 := @run_callFunc_extern Tryd.prog 283 _ (ReflectliteType.relation "AssignableTo" ReflectliteType.assignableTo) Tryd.func283 (by kernel_rfl) (by kernel_rfl) (by kernel_rfl) (by kernel_rfl)
  have h11 := @run_callFunc_extern Tryd.prog 194 _ (ReflectliteValue.method (ReflectliteValue.valueError "reflectlite.Value.Elem" 0) ReflectliteValue.elem) Tryd.func194 (by kernel_rfl) (by kernel_rfl) (by kernel_rfl) (by kernel_rfl)
  have h12 := @run_callFunc_extern Tryd.prog 195 _ ReflectliteValue.set Tryd.func195 (by kernel_rfl) (by kernel_rfl) (by kernel_rfl) (by kernel_rfl)
  have tO := AsF.typeOf25
  have tA := AsF.typeOfAt
  have aA := AsF.assignableAt
  have nA := AsF.noAs
  have hU := AsF.hasUnwrap
  have mU := AsF.methodUnwrap
  have hatl : (⟨at_, 0, none⟩ : Addr).block < w.heap.size := World.block_lt_of_cell? _ _ hat
  have mA := AsF.methodAssignableTo
  have a25 := AsF.assignable25
  have v25 := AsF.valueOf25
  have f6 := AsF.valueOf27
  have f7 := AsF.type27
  have mK := AsF.methodKind
  have mE := AsF.methodElem
  have mI := AsF.methodImplements
  have k27 := AsF.kind27
  have k25 := AsF.kind25
  have e27 := AsF.elem27
  have i25 := AsF.implements25
  have n8 := AsF.isNil27 ⟨w.heap.size, 0, none⟩ t ((w.alloc (.cells #[.pointer (some t)] 152)).alloc (.cells #[.pointer (some ⟨4, 152, none⟩), .pointer (some ⟨w.heap.size, 0, none⟩), .int .u64 150] 241)) (by simp)
  have hlt : (⟨0, 0, none⟩ : Addr).block < w.heap.size := World.block_lt_of_cell? _ _ hg
  have hg2 : ((w.alloc (.cells #[.pointer (some t)] 152)).alloc (.cells #[.pointer (some ⟨4, 152, none⟩), .pointer (some ⟨w.heap.size, 0, none⟩), .int .u64 150] 241)).cell? ⟨0, 0, none⟩ = some (.iface 289 (.agg #[.pointer (some ⟨4, 27, none⟩)])) := by
    rw [World.cell?_alloc_lt _ _ ⟨0, 0, none⟩ (by simp only [World.size_alloc]; exact Nat.lt_succ_of_lt hlt), World.cell?_alloc_lt _ _ ⟨0, 0, none⟩ hlt]; exact hg
  have htl : t.block < w.heap.size := by
    rcases Nat.lt_or_ge t.block w.heap.size with h | h
    · exact h
    · simp [World.cell?, Array.getElem?_eq_none h] at ht0
  have el := AsF.elemV27 ⟨w.heap.size, 0, none⟩ t (((w.alloc (.cells #[.pointer (some t)] 152)).alloc (.cells #[.pointer (some ⟨4, 152, none⟩), .pointer (some ⟨w.heap.size, 0, none⟩), .int .u64 150] 241)).alloc (.cells #[.pointer (some ⟨4, 152, none⟩), .pointer (some ⟨w.heap.size, 0, none⟩), .int .u64 150] 241)) (by rw [World.cell?_alloc_lt _ _ ⟨w.heap.size, 0, none⟩ (by simp; omega)]; simp)
  have st := AsF.set25 t ⟨w.heap.size + 1 + 1 + 1, 0, none⟩ e old ((((w.alloc (.cells #[.pointer (some t)] 152)).alloc (.cells #[.pointer (some ⟨4, 152, none⟩), .pointer (some ⟨w.heap.size, 0, none⟩), .int .u64 150] 241)).alloc (.cells #[.pointer (some ⟨4, 152, none⟩), .pointer (some ⟨w.heap.size, 0, none⟩), .int .u64 150] 241)).alloc (.cells #[.int .i64 e] 40))
    (by rw [World.cell?_alloc_at _ _ _ _ (by simp)]; rfl)
    (by rw [World.cell?_alloc_lt _ _ t (by simp; omega), World.cell?_alloc_lt _ _ t (by simp; omega), World.cell?_alloc_lt _ _ t (by simp; omega), World.cell?_alloc_lt _ _ t htl]; exact ht0)
    (by rw [World.frozen?_alloc_old _ _ t (by simp; omega), World.frozen?_alloc_old _ _ t (by simp; omega), World.frozen?_alloc_old _ _ t (by simp; omega), World.frozen?_alloc_old _ _ t (Nat.ne_of_lt htl)]; exact hf0)
  have hat3 : (((w.alloc (.cells #[.pointer (some t)] 152)).alloc (.cells #[.pointer (some ⟨4, 152, none⟩), .pointer (some ⟨w.heap.size, 0, none⟩), .int .u64 150] 241)).alloc (.cells #[.pointer (some ⟨4, 152, none⟩), .pointer (some ⟨w.heap.size, 0, none⟩), .int .u64 150] 241)).cell? ⟨at_, 0, none⟩ = some (.int .i64 e) := by
    rw [World.cell?_alloc_lt _ _ ⟨at_, 0, none⟩ (by simp only [World.size_alloc]; exact Nat.lt_succ_of_lt (Nat.lt_succ_of_lt hatl)), World.cell?_alloc_lt _ _ ⟨at_, 0, none⟩ (by simp only [World.size_alloc]; exact Nat.lt_succ_of_lt hatl), World.cell?_alloc_lt _ _ ⟨at_, 0, none⟩ hatl]; exact hat
  go_enter Tryd.func102, Tryd.ntmps102
  go_wp2
  refine wp_loop_rounds 2 ?_
  rw [rounds_succ]
  go_wp2
  rw [rounds_succ]
  go_wp2
  go_ret
  exact ⟨rfl, rfl⟩

set_option maxRecDepth 100000 in
theorem tell_at (z : Int) (b : Nat) (w : World) (hg : Laid w) (hat : w.cell? ⟨b, 0, none⟩ = some (.int .i64 z)) :
    Calls Tryd.prog 19 #[.iface 302 (.pointer (some ⟨b, 0, none⟩))] w fun e w' => e = .returned (.int .i64 z) ∧ Turn (fun _ => False) w w' := by
  have hlt := hg.lt
  have ha := as_at z b ⟨w.heap.size, 0, none⟩ (.int .i64 0) (w.alloc (.cells #[.int .i64 0] 40)) (by rw [World.cell?_alloc_lt _ _ _ hlt]; exact hg) (by simp) (by simp) (by rw [World.cell?_alloc_lt _ _ _ (lt_of_cell hat)]; exact hat)
  go_enter Tryd.func19, Tryd.ntmps19
  go_wp2_with fail
  refine ha.mono ?_
  rintro e w1 ⟨rfl, rfl⟩
  go_wp2_with fail
  go_ret
  refine ⟨rfl, ?_⟩
  exact ((((Turn.refl _ _).alloc _).alloc _).alloc _ |>.alloc _).alloc _
end Go.Proofs.YtiohpmcedfbcgabDoor
