/- KernelApart: for every input the law returns true, and its arguments read behind the call as before. Condition: the row's own, that its listed variables are laid; the card ties them to the program's text. -/
import Derived.Test.YtamleilijmgoeaaGreatDoorKernelApartFacts
import Derived.Test.YtamleilijmgoeaaGreatDoorKernelApartLift
namespace Go.Proofs.YtamleilijmgoeaaGreatDoor
set_option linter.unusedVariables false
section
open Go.ChangeShapes Go.WideShapes Go.ChangeAt Go.RowKit
namespace KernelApart
theorem over:Rows.KernelApartSaid :=
 OpenClaim.holds_of_wide 9 Tryz.f9 rfl rfl rfl rfl rfl rfl rfl ⟨rfl,rfl,rfl,rfl,rfl⟩ rfl rfl rfl rfl rfl named Tryz.func9 closed instanced wrapped
  (fun os started H enc _ => lifted os started H enc)
end KernelApart
theorem kernelApart_holds:Rows.KernelApartCardSaid :=
 Claim7.holds_tied_plain_at .later [] [.data,.data,.data,.data,.handle,.pinned] true Rows.kernelApartCard.stood.harness true
  KernelApart.over (fun _ h => by cases h) (by as_aux_lemma => kernel_rfl) (fun _ h => by cases h) kernelApart_row_tie rfl ⟨rfl,rfl⟩ (by as_aux_lemma => kernel_rfl) rfl
  (fun f fn hf hfn => by
   obtain rfl:f=9:=Option.some.inj ((show Tryz.prog.funcNamed "almshouse/almshousekeep.KernelApart"=some 9 by as_aux_lemma => kernel_rfl).symm.trans hf) |>.symm
   obtain rfl:fn=Tryz.f9:=(Option.some.inj (Tryz.func9.symm.trans hfn)).symm
   exact ⟨by as_aux_lemma => kernel_rfl,fun j t ht => by
    rw [Tryz.params9] at ht
    have h3:t=3∨t=43:=by
     rcases j with _ | _ | _ | _ | j
     ·exact .inl (by simpa using ht.symm)
     ·exact .inr (by simpa using ht.symm)
     ·exact .inr (by simpa using ht.symm)
     ·exact .inl (by simpa using ht.symm)
     ·simp at ht
    rcases h3 with h3 | h3
    ·rw [h3]
     exact (show Tryz.prog.wantsStandIn 3=false by as_aux_lemma => kernel_rfl)
    ·rw [h3]
     exact (show Tryz.prog.wantsStandIn 43=false by as_aux_lemma => kernel_rfl)⟩)
  (by as_aux_lemma => kernel_rfl)
#print axioms kernelApart_holds
end
end Go.Proofs.YtamleilijmgoeaaGreatDoor
