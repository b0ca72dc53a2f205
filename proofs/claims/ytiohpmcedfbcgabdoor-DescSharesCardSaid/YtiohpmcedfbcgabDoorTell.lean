/- api.Tell: of nil; of an api.Errno. Condition: the variable errors.errorType holds what is laid ('Laid'). -/
import Derived.Test.YtiohpmcedfbcgabDoorAs
namespace Go.Proofs.YtiohpmcedfbcgabDoor
open Go.RowKit
set_option linter.unusedVariables false

/-- The variable errors.errorType holds what the program's text lays. -/
def Laid (w : World) : Prop := w.cell? ⟨0, 0, none⟩ = some (.iface 289 (.agg #[.pointer (some ⟨4, 27, none⟩)]))

theorem Laid.turned {S : Nat → Prop} {w w1 : World} (h : Laid w) (t : Turn S w w1) (hn : ¬ S 0) : Laid w1 := by
  unfold Laid at h ⊢
  rw [t.cell (lt_of_cell h) hn]; exact h

theorem Laid.turned0 {w w1 : World} (h : Laid w) (t : Turn (fun _ => False) w w1) : Laid w1 := h.turned t id

theorem Laid.lt {w : World} (h : Laid w) : 0 < w.heap.size := lt_of_cell h

theorem tell_nil (w : World) : Calls Tryd.prog 19 #[.nilIface] w fun e w' => e = .returned (.int .i64 0) ∧ w' = w := by
  go_enter Tryd.func19, Tryd.ntmps19
  go_wp2
  go_ret
  exact ⟨rfl, rfl⟩

set_option maxRecDepth 100000 in
theorem tell_errno (z : Int) (w : World) (hg : Laid w) :
    Calls Tryd.prog 19 #[.iface 40 (.int .i64 z)] w fun e w' => e = .returned (.int .i64 z) ∧ Turn (fun _ => False) w w' := by
  have hlt := hg.lt
  have ha := as_hit z ⟨w.heap.size, 0, none⟩ (.int .i64 0) (w.alloc (.cells #[.int .i64 0] 40)) (by rw [World.cell?_alloc_lt _ _ _ hlt]; exact hg) (by simp) (by simp)
  go_enter Tryd.func19, Tryd.ntmps19
  go_wp2_with fail
  refine ha.mono ?_
  rintro e w1 ⟨rfl, rfl⟩
  go_wp2_with fail
  go_ret
  refine ⟨rfl, ?_⟩
  exact ((((Turn.refl _ _).alloc _).alloc _).alloc _ |>.alloc _).alloc _
end Go.Proofs.YtiohpmcedfbcgabDoor
