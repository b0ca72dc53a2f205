/- KernelRounds: for every input the law returns true, and its arguments read behind the call as before. Condition: the row's own, that its listed variables are laid; the card ties them to the program's text. -/
import Derived.Test.YtamleilijmgoeaaGreatDoorKernelRoundsFacts
import Derived.Test.YtamleilijmgoeaaGreatDoorKernelRoundsLift
namespace Go.Proofs.YtamleilijmgoeaaGreatDoor
set_option linter.unusedVariables false
section
open Go.ChangeShapes Go.WideShapes Go.ChangeAt Go.RowKit
namespace KernelRounds
theorem over:Rows.KernelRoundsSaid :=
 OpenClaim.holds_of_wide 10 Tryz.f10 rfl rfl rfl rfl rfl rfl rfl ⟨rfl,rfl,rfl,rfl,rfl⟩ rfl rfl rfl rfl rfl named Tryz.func10 closed instanced wrapped
  (fun os started H enc _ => lifted os started H enc)
end KernelRounds
theorem kernelRounds_holds:Rows.KernelRoundsCardSaid :=
 Claim7.holds_tied_plain_at .later [] [.data,.data,.data,.data,.handle,.pinned] true Rows.kernelRoundsCard.stood.harness true
  KernelRounds.over (fun _ h => by cases h) (by as_aux_lemma => kernel_rfl) (fun _ h => by cases h) kernelRounds_row_tie rfl ⟨rfl,rfl⟩ (by as_aux_lemma => kernel_rfl) rfl
  (fun f fn hf hfn => by
   obtain rfl:f=10:=Option.some.inj ((show Tryz.prog.funcNamed "almshouse/almshousekeep.KernelRounds"=some 10 by as_aux_lemma => kernel_rfl).symm.trans hf) |>.symm
   obtain rfl:fn=Tryz.f10:=(Option.some.inj (Tryz.func10.symm.trans hfn)).symm
   exact ⟨by as_aux_lemma => kernel_rfl,fun j t ht => by
    rw [Tryz.params10] at ht
    have h3:t=3∨t=43:=by
     rcases j with _ | _ | _ | _ | j
     ·exact .inl (by simpa using ht.symm)
     ·exact .inr (by simpa using ht.symm)
     ·exact .inl (by simpa using ht.symm)
     ·exact .inr (by simpa using ht.symm)
     ·simp at ht
    rcases h3 with h3 | h3
    ·rw [h3]
     exact (show Tryz.prog.wantsStandIn 3=false by as_aux_lemma => kernel_rfl)
    ·rw [h3]
     exact (show Tryz.prog.wantsStandIn 43=false by as_aux_lemma => kernel_rfl)⟩)
  (by as_aux_lemma => kernel_rfl)
#print axioms kernelRounds_holds
end
end Go.Proofs.YtamleilijmgoeaaGreatDoor
