/- KernelTalks: for every input the law returns true, and its arguments read behind the call as before. Condition: the row's own, that its listed variables are laid; the card ties them to the program's text. -/
import Derived.Test.YtamleilijmgoeaaGreatDoorKernelTalksFacts
import Derived.Test.YtamleilijmgoeaaGreatDoorKernelTalksLift
namespace Go.Proofs.YtamleilijmgoeaaGreatDoor
open Go.ChangeShapes Go.WideShapes Go.ChangeAt Go.RowKit
set_option linter.unusedVariables false
namespace KernelTalks
theorem over : Rows.KernelTalksSaid :=
 OpenClaim.holds_of_wide 3 Tryz.f3 rfl rfl rfl rfl rfl rfl rfl ⟨rfl, rfl, rfl, rfl, rfl⟩ rfl rfl rfl rfl rfl named Tryz.func3 closed instanced wrapped
  (fun os started H enc _ => lifted os started H enc)
end KernelTalks
theorem kernelTalks_holds : Rows.KernelTalksCardSaid :=
 Claim7.holds_tied_plain_at .later [] [.handle] true Rows.kernelTalksCard.stood.harness true
  KernelTalks.over (fun _ h => by cases h) (by as_aux_lemma => kernel_rfl) (fun _ h => by cases h) kernelTalks_row_tie rfl ⟨rfl, rfl⟩ (by as_aux_lemma => kernel_rfl) rfl
  (fun f fn hf hfn => by
   obtain rfl : f = 3 := Option.some.inj ((show Tryz.prog.funcNamed "almshouse/almshousekeep.KernelTalks" = some 3 by as_aux_lemma => kernel_rfl).symm.trans hf) |>.symm
   obtain rfl : fn = Tryz.f3 := (Option.some.inj (Tryz.func3.symm.trans hfn)).symm
   exact ⟨by as_aux_lemma => kernel_rfl, fun j t ht => by
    rw [Tryz.params3] at ht
    have h3 : t = 22 ∨ t = 23 := by
     rcases j with _ | _ | j
     ·exact .inl (by simpa using ht.symm)
     ·exact .inr (by simpa using ht.symm)
     ·simp at ht
    rcases h3 with h3 | h3
    ·rw [h3]
     exact (show Tryz.prog.wantsStandIn 22 = false by as_aux_lemma => kernel_rfl)
    ·rw [h3]
     exact (show Tryz.prog.wantsStandIn 23 = false by as_aux_lemma => kernel_rfl)⟩)
  (by as_aux_lemma => kernel_rfl)
#print axioms kernelTalks_holds
end Go.Proofs.YtamleilijmgoeaaGreatDoor
