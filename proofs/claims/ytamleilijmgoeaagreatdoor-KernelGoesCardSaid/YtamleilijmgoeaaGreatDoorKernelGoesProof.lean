/- KernelGoes: for every input the law returns true, and its arguments read behind the call as before. Condition: the row's own, that its listed variables are laid; the card ties them to the program's text. -/
import Derived.Test.YtamleilijmgoeaaGreatDoorKernelGoesFacts
import Derived.Test.YtamleilijmgoeaaGreatDoorKernelGoesLift
namespace Go.Proofs.YtamleilijmgoeaaGreatDoor
open Go.ChangeShapes Go.WideShapes Go.ChangeAt Go.RowKit
set_option linter.unusedVariables false
namespace KernelGoes
theorem over : Rows.KernelGoesSaid :=
 OpenClaim.holds_of_wide 5 Tryz.f5 rfl rfl rfl rfl rfl rfl rfl ⟨rfl, rfl, rfl, rfl, rfl⟩ rfl rfl rfl rfl rfl named Tryz.func5 closed instanced wrapped
  (fun os started H enc _ => lifted os started H enc)
end KernelGoes
theorem kernelGoes_holds : Rows.KernelGoesCardSaid :=
 Claim7.holds_tied_plain_at .later [] [.data, .handle, .pinned] true Rows.kernelGoesCard.stood.harness true
  KernelGoes.over (fun _ h => by cases h) (by as_aux_lemma => kernel_rfl) (fun _ h => by cases h) kernelGoes_row_tie rfl ⟨rfl, rfl⟩ (by as_aux_lemma => kernel_rfl) rfl
  (fun f fn hf hfn => by
   obtain rfl : f = 5 := Option.some.inj ((show Tryz.prog.funcNamed "almshouse/almshousekeep.KernelGoes" = some 5 by as_aux_lemma => kernel_rfl).symm.trans hf) |>.symm
   obtain rfl : fn = Tryz.f5 := (Option.some.inj (Tryz.func5.symm.trans hfn)).symm
   exact ⟨by as_aux_lemma => kernel_rfl, fun j t ht => by
    rw [Tryz.params5] at ht
    have h3 : t = 3 ∨ t = 43 := by
     rcases j with _ | _ | _ | _ | _ | _ | j
     ·exact .inl (by simpa using ht.symm)
     ·exact .inr (by simpa using ht.symm)
     ·exact .inl (by simpa using ht.symm)
     ·exact .inl (by simpa using ht.symm)
     ·exact .inl (by simpa using ht.symm)
     ·exact .inl (by simpa using ht.symm)
     ·simp at ht
    rcases h3 with h3 | h3
    ·rw [h3]
     exact (show Tryz.prog.wantsStandIn 3 = false by as_aux_lemma => kernel_rfl)
    ·rw [h3]
     exact (show Tryz.prog.wantsStandIn 43 = false by as_aux_lemma => kernel_rfl)⟩)
  (by as_aux_lemma => kernel_rfl)
#print axioms kernelGoes_holds
end Go.Proofs.YtamleilijmgoeaaGreatDoor
