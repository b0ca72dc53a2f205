/- plain.Place, and the laws' own 'is' and 'bare': of nil, of an api.Errno, of an *api.At. Condition: the variable errors.errorType holds what is laid ('Laid'). -/
import Derived.Test.YtiohpmcedfbcgacGreatDoorAs
import Derived.BigRegion
import Derived.Handy
namespace Go.Proofs.YtiohpmcedfbcgacGreatDoor
open Go.RowKit
set_option linter.unusedVariables false

theorem errno_no_unwrap (v : Value) (xT : TypeId) (w : World) : (Instr.typeAssert (.iface 45 v) xT 404 true).run Tryz.prog w = .ok (.tuple #[.nilIface, .bool false]) w := run_typeAssert_lacksB Tryz.underlying404 (by kernel_rfl) (by kernel_rfl) v xT w

theorem errno_no_at (v : Value) (w : World) : (Instr.typeAssert (.iface 45 v) 26 343 true).run Tryz.prog w = .ok (.tuple #[.pointer none, .bool false]) w := by kernel_rfl
theorem at_is_at (v : Value) (w : World) : (Instr.typeAssert (.iface 343 v) 26 343 true).run Tryz.prog w = .ok (.tuple #[v, .bool true]) w := by kernel_rfl

set_option maxRecDepth 100000 in
theorem place_nil (w : World) : Calls Tryz.prog 251 #[.nilIface] w fun e w' => e = .returned (.tuple #[.int .i64 0, .int .i64 (-1)]) ∧ w' = w := by
  go_enter Tryz.func251, Tryz.ntmps251
  go_wp2_with fail
  refine (tell_nil w).mono ?_
  rintro e w1 ⟨rfl, rfl⟩
  go_wp2_with fail
  refine wp_loop_rounds 1 ?_
  rw [rounds_succ]
  go_wp2_with fail
  go_ret2
  exact ⟨rfl, rfl⟩

set_option maxRecDepth 100000 in
theorem place_errno (z : Int) (w : World) (hg : Laid w) : Calls Tryz.prog 251 #[.iface 45 (.int .i64 z)] w fun e w' => e = .returned (.tuple #[.int .i64 z, .int .i64 (-1)]) ∧ Turn (fun _ => False) w w' := by
  have HTe := hid (tell_errno z w hg)
  have nu := errno_no_unwrap
  have na := errno_no_at
  clear hg
  go_enter Tryz.func251, Tryz.ntmps251
  go_wp2_with fail
  refine HTe.out.mono ?_
  rintro e w1 ⟨rfl, t1⟩
  have T1 := hid t1
  clear t1
  go_wp2_with fail
  refine wp_loop_rounds 1 ?_
  rw [rounds_succ]
  go_wp2_with fail
  go_ret2
  exact ⟨rfl, T1.out⟩

set_option maxRecDepth 100000 in
theorem place_at (z p : Int) (b : Nat) (w : World) (hg : Laid w) (h0 : w.cell? ⟨b, 0, none⟩ = some (.int .i64 z)) (h1 : w.cell? ⟨b, 1, none⟩ = some (.int .i64 p)) :
    Calls Tryz.prog 251 #[.iface 343 (.pointer (some ⟨b, 0, none⟩))] w fun e w' => e = .returned (.tuple #[.int .i64 z, .int .i64 p]) ∧ Turn (fun _ => False) w w' := by
  have HTe := hid (tell_at z b w hg h0)
  have hb := lt_of_cell h1
  have na := at_is_at
  clear hg h0
  go_enter Tryz.func251, Tryz.ntmps251
  go_wp2_with fail
  refine HTe.out.mono ?_
  rintro e w1 ⟨rfl, t1⟩
  have c1 := (t1.cell (a := ⟨b, 1, none⟩) hb id).trans h1
  have T1 := hid t1
  clear t1 h1
  go_wp2_with fail
  refine wp_loop_rounds 1 ?_
  rw [rounds_succ]
  go_wp2_with fail
  all_goals go_region
  all_goals go_wp2_with fail
  all_goals go_ret2
  all_goals exact ⟨rfl, T1.out.drew⟩

/-! ### is, bare: only where they say yes -/
set_option maxRecDepth 100000 in
theorem is_nil (w : World) : Calls Tryz.prog 151 #[.nilIface, .agg #[.int .i64 0, .int .i64 (-1)]] w fun e w' => e = .returned (.bool true) ∧ Turn (fun _ => False) w w' := by
  go_enter Tryz.func151, Tryz.ntmps151
  go_wp2_with fail
  refine (place_nil _).mono ?_
  rintro e w1 ⟨rfl, rfl⟩
  go_wp2_with fail
  go_ret
  exact ⟨rfl, (Turn.refl _ _).alloc _⟩

set_option maxRecDepth 100000 in
theorem is_errno (z : Int) (w : World) (hg : Laid w) : Calls Tryz.prog 151 #[.iface 45 (.int .i64 z), .agg #[.int .i64 z, .int .i64 (-1)]] w fun e w' => e = .returned (.bool true) ∧ Turn (fun _ => False) w w' := by
  have HA := hid (hg.turned0 ((Turn.refl (fun _ => False) w).alloc (.cells #[.int .i64 z, .int .i64 (-1)] 243)))
  have c0 : (w.alloc (.cells #[.int .i64 z, .int .i64 (-1)] 243)).cell? ⟨w.heap.size, 0, none⟩ = some (.int .i64 z) := by simp
  have c1 : (w.alloc (.cells #[.int .i64 z, .int .i64 (-1)] 243)).cell? ⟨w.heap.size, 1, none⟩ = some (.int .i64 (-1)) := by simp
  have T0 : Turn (fun _ => False) w (w.alloc (.cells #[.int .i64 z, .int .i64 (-1)] 243)) := (Turn.refl _ _).alloc _
  have hz : (z == z) = true := by simp
  clear hg
  go_enter Tryz.func151, Tryz.ntmps151
  go_wp2_with fail
  generalize w.alloc (.cells #[.int .i64 z, .int .i64 (-1)] 243) = W1 at *
  refine (place_errno z _ HA.out).mono ?_
  rintro e w1 ⟨rfl, t1⟩
  have d0 := (t1.cell (a := ⟨w.heap.size, 0, none⟩) (lt_of_cell c0) id).trans c0
  have d1 := (t1.cell (a := ⟨w.heap.size, 1, none⟩) (lt_of_cell c1) id).trans c1
  have T1 := hid (T0.trans t1)
  clear t1 c0 c1 T0
  go_wp2_with fail
  go_ret
  exact ⟨rfl, T1.out⟩

set_option maxRecDepth 100000 in
theorem is_at (z p : Int) (b : Nat) (w : World) (hg : Laid w) (h0 : w.cell? ⟨b, 0, none⟩ = some (.int .i64 z)) (h1 : w.cell? ⟨b, 1, none⟩ = some (.int .i64 p)) :
    Calls Tryz.prog 151 #[.iface 343 (.pointer (some ⟨b, 0, none⟩)), .agg #[.int .i64 z, .int .i64 p]] w fun e w' => e = .returned (.bool true) ∧ Turn (fun _ => False) w w' := by
  have T0 : Turn (fun _ => False) w (w.alloc (.cells #[.int .i64 z, .int .i64 p] 243)) := (Turn.refl _ _).alloc _
  have HA := hid (hg.turned0 T0)
  have H0 := hid ((T0.cell (a := ⟨b, 0, none⟩) (lt_of_cell h0) id).trans h0)
  have H1 := hid ((T0.cell (a := ⟨b, 1, none⟩) (lt_of_cell h1) id).trans h1)
  have c0 : (w.alloc (.cells #[.int .i64 z, .int .i64 p] 243)).cell? ⟨w.heap.size, 0, none⟩ = some (.int .i64 z) := by simp
  have c1 : (w.alloc (.cells #[.int .i64 z, .int .i64 p] 243)).cell? ⟨w.heap.size, 1, none⟩ = some (.int .i64 p) := by simp
  have hz : (z == z) = true := by simp
  have hp : (p == p) = true := by simp
  clear hg h0 h1
  go_enter Tryz.func151, Tryz.ntmps151
  go_wp2_with fail
  generalize w.alloc (.cells #[.int .i64 z, .int .i64 p] 243) = W1 at *
  refine (place_at z p b _ HA.out H0.out H1.out).mono ?_
  rintro e w1 ⟨rfl, t1⟩
  have d0 := (t1.cell (a := ⟨w.heap.size, 0, none⟩) (lt_of_cell c0) id).trans c0
  have d1 := (t1.cell (a := ⟨w.heap.size, 1, none⟩) (lt_of_cell c1) id).trans c1
  have T1 := hid (T0.trans t1)
  clear t1 c0 c1 T0
  go_wp2_with fail
  go_ret
  exact ⟨rfl, T1.out⟩

set_option maxRecDepth 100000 in
theorem refBare (z : Int) (w : World) : Calls Tryz.prog 152 #[.int .i64 z] w fun e w' => e = .returned (.agg #[.int .i64 z, .int .i64 (-1)]) ∧ Turn (fun _ => False) w w' := by
  go_enter Tryz.func152, Tryz.ntmps152
  go_wp2_with fail
  go_returns
  exact ⟨by simp, (Turn.refl _ _).alloc _⟩

theorem bare_nil (w : World) : Calls Tryz.prog 69 #[.nilIface, .int .i64 0] w fun e w' => e = .returned (.bool true) ∧ Turn (fun _ => False) w w' := by
  go_enter Tryz.func69, Tryz.ntmps69
  go_wp2_with fail
  refine (refBare 0 _).mono ?_
  rintro e w1 ⟨rfl, t1⟩
  have T1 := hid t1
  clear t1
  go_wp2_with fail
  refine (is_nil _).mono ?_
  rintro e w2 ⟨rfl, t2⟩
  have T2 := hid (T1.out.trans t2)
  clear t2
  go_wp2_with fail
  go_ret
  exact ⟨rfl, T2.out⟩
theorem bare_errno (z : Int) (w : World) (hg : Laid w) : Calls Tryz.prog 69 #[.iface 45 (.int .i64 z), .int .i64 z] w fun e w' => e = .returned (.bool true) ∧ Turn (fun _ => False) w w' := by
  have HG := hid hg
  clear hg
  go_enter Tryz.func69, Tryz.ntmps69
  go_wp2_with fail
  refine (refBare z _).mono ?_
  rintro e w1 ⟨rfl, t1⟩
  have T1 := hid t1
  clear t1
  go_wp2_with fail
  refine (is_errno z _ (HG.out.turned0 T1.out)).mono ?_
  rintro e w2 ⟨rfl, t2⟩
  have T2 := hid (T1.out.trans t2)
  clear t2
  go_wp2_with fail
  go_ret
  exact ⟨rfl, T2.out⟩
end Go.Proofs.YtiohpmcedfbcgacGreatDoor
