/- Package proc: Parent. Condition: the table lies in memory. -/
import Derived.Test.YtiohpmcedfbcgabDoorProc
namespace Go.Proofs.YtiohpmcedfbcgabDoor
open Go.RowKit
set_option linter.unusedVariables false

theorem parent_is {w : World} {tb mb : Nat} {l : List (Int × Nat)} {f : Nat → Pr} (h : TabIs w tb mb l f) (pid : Int) :
    Calls Tryd.prog 50 #[.pointer (some ⟨tb, 0, none⟩), .int .i64 pid] w fun e w' => e = .returned (.int .i64 ((mget l pid).elim 0 fun b => (f b).parent)) ∧ w = w' := by
  have hh := h.hdr
  have lk := lookup_pid h.mp pid
  unfold whereP at lk
  cases e : mget l pid with
  | none =>
    rw [e] at lk
    simp only [Option.elim] at lk ⊢
    clear h e
    go_enter Tryd.func50, Tryd.ntmps50
    go_wp2_with fail
    go_ret
    exact ⟨rfl, rfl⟩
  | some b =>
    rw [e] at lk
    simp only [Option.elim, ptr] at lk ⊢
    have c0 := (h.pr _ (mem_of_mget e)).c0
    simp only at c0
    clear h e
    go_enter Tryd.func50, Tryd.ntmps50
    go_wp2_with fail
    go_ret
    exact ⟨rfl, rfl⟩

end Go.Proofs.YtiohpmcedfbcgabDoor
