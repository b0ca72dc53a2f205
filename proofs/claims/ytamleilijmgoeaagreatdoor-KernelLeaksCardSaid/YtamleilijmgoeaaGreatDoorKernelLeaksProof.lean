/- KernelLeaks: for every input the law returns true, and its arguments read behind the call as before. Condition: the row's own, that its listed variables are laid; the card ties them to the program's text. -/
import Derived.Test.YtamleilijmgoeaaGreatDoorKernelLeaksFacts
import Derived.Test.YtamleilijmgoeaaGreatDoorKernelLeaksLift
namespace Go.Proofs.YtamleilijmgoeaaGreatDoor
open Go.ChangeShapes Go.WideShapes Go.ChangeAt Go.RowKit
set_option linter.unusedVariables false
namespace KernelLeaks
theorem over : Rows.KernelLeaksSaid :=
 OpenClaim.holds_of_wide 6 Tryz.f6 rfl rfl rfl rfl rfl rfl rfl ⟨rfl, rfl, rfl, rfl, rfl⟩ rfl rfl rfl rfl rfl named Tryz.func6 closed instanced wrapped
  (fun os started H enc _ => lifted os started H enc)
end KernelLeaks
theorem kernelLeaks_holds : Rows.KernelLeaksCardSaid :=
 Claim7.holds_tied_plain_at .later [] [.data, .handle, .pinned] true Rows.kernelLeaksCard.stood.harness true
  KernelLeaks.over (fun _ h => by cases h) (by as_aux_lemma => kernel_rfl) (fun _ h => by cases h) kernelLeaks_row_tie rfl ⟨rfl, rfl⟩ (by as_aux_lemma => kernel_rfl) rfl
  (fun f fn hf hfn => by
   obtain rfl : f = 6 := Option.some.inj ((show Tryz.prog.funcNamed "almshouse/almshousekeep.KernelLeaks" = some 6 by as_aux_lemma => kernel_rfl).symm.trans hf) |>.symm
   obtain rfl : fn = Tryz.f6 := (Option.some.inj (Tryz.func6.symm.trans hfn)).symm
   exact ⟨by as_aux_lemma => kernel_rfl, fun j t ht => by
    rw [Tryz.params6] at ht
    have h3 : t = 3 ∨ t = 43 := by
     rcases j with _ | _ | j
     ·exact .inl (by simpa using ht.symm)
     ·exact .inr (by simpa using ht.symm)
     ·simp at ht
    rcases h3 with h3 | h3
    ·rw [h3]
     exact (show Tryz.prog.wantsStandIn 3 = false by as_aux_lemma => kernel_rfl)
    ·rw [h3]
     exact (show Tryz.prog.wantsStandIn 43 = false by as_aux_lemma => kernel_rfl)⟩)
  (by as_aux_lemma => kernel_rfl)
#print axioms kernelLeaks_holds
end Go.Proofs.YtamleilijmgoeaaGreatDoor
