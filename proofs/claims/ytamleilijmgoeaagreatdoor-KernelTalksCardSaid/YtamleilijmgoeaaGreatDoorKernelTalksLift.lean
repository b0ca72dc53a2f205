/- KernelTalks, the run from every start: for every input the law returns true, and its arguments read behind the call as before. Condition: the row's own, that its listed variables are laid; the card ties them to the program's text. -/
import Derived.Test.YtamleilijmgoeaaGreatDoorRows
import Derived.Test.YtamleilijmgoeaaGreatDoorKernWith
import Derived.Test.YtamleilijmgoeaaGreatDoorNumsOpenK
import Derived.Test.YtamleilijmgoeaaGreatDoorStrsOpen
import Derived.Test.YtamleilijmgoeaaGreatDoorLaw
import Derived.Test.YtamleilijmgoeaaGreatDoorTie
import Derived.Test.YtamleilijmgoeaaGreatDoorCards
import Derived.SevenTiedAt
namespace Go.Proofs.YtamleilijmgoeaaGreatDoor
open Go.ChangeShapes Go.WideShapes Go.ChangeAt Go.RowKit
set_option linter.unusedVariables false
namespace KernelTalks
set_option maxRecDepth 100000 in
theorem lifted (os : Os) (started : os.Started) (H : Type) (enc : TypeId × Value → H) :
  ReturnsInHanded {} Tryz.checked os 3 .any (fun w args => (Rows.kernelTalksSpec.pre enc Tryz.prog Tryz.f3 [] false w args ∧ laidMetH Tryz.prog laidOne w) ∧ sizedMet enc Tryz.prog Tryz.f3 (OpenSpec.ofChange Rows.kernelTalksSpec) false w args)
   (Rows.kernelTalksSpec.post enc Tryz.prog Tryz.f3 false true false false) := by
 refine returnsInHanded_of_change_and (C := Tryz.checked) (X := fun w _ => laidMetH Tryz.prog laidOne w) (fun _ _ _ hh h => h.of_heap hh) own started (by kernel_rfl) Tryz.func3
  (ChangeSpec.witness_at (enc := enc) (C := Tryz.checked) (os := os) (X := fun w _ => laidMetH Tryz.prog laidOne w) false (laidWorld os) #[.slice none 0 0, .slice none 0 0] 8 rfl (by kernel_rfl) (by kernel_rfl) (by kernel_rfl) (by kernel_rfl) (by kernel_rfl) (laidWorld_met os _)) ?_
 intro W base args ds gs before hval0 hW _ _ hL _
 have hval : ∀ (j : Nat) t v, Tryz.f3.params[j]? = some t → args[j]? = some v → Value.okWide Tryz.prog W .any base t v := hval0
 have hW' := hW
 obtain ⟨p, q, hA0, hV, rfl, hfz, hnd⟩ := hW
 have hA : DataW.TrodAll enc Tryz.prog W 0 (fun _ => true) true Tryz.f3.params.toList args.toList ds p := hA0
 rw [Tryz.params3] at hA hval
 obtain ⟨v0, vs0, d0, ds0, p0, q0, hargs, rfl, rfl, h0, r0⟩ := trodAll_cons hA
 obtain ⟨v1, vs1, d1, ds1, p1, q1, rfl, rfl, rfl, h1, r1⟩ := trodAll_cons r0
 obtain ⟨rfl, rfl, rfl⟩ := trodAll_nil r1
 obtain rfl : args = #[v0, v1] := by cases args; simp_all
 obtain ⟨rfl, rfl⟩ := trodVars_none hV
 have hm : maxLen = 9223372036854775807 := rfl
 obtain ⟨a0, l0, cap0, rfl, hlc0, hcm0, hs0, hz0⟩ := open_strs Tryz.underlying22 Tryz.underlying9 (by kernel_rfl) (hval 0 22 v0 rfl rfl) h0
 obtain ⟨a1, l1, cap1, rfl, hlc1, hcm1, hs1, hz1⟩ := open_numsK Tryz.underlying23 Tryz.underlying3 (by kernel_rfl) (hval 1 23 v1 rfl rfl) h1
 have fin : ∀ e W', (e = Ending.returned (.bool true) ∧ Turn (fun _ => False) W W') → ∃ v, e = .returned v ∧ Rows.kernelTalksSpec.post enc Tryz.prog Tryz.f3 false true false false W #[.slice a0 l0.length cap0, .slice a1 l1.length cap1] v W' := by
  intro e W' ⟨he, hg⟩
  subst he
  exact ⟨_, rfl, law_post hW' rfl rfl rfl (by kernel_rfl) ((hg.mono (fun k hk h => h.elim)).below (Nat.le_refl _))⟩
 by_cases hbig : 20 < l0.length
 ·exact (kernelTalks_many a0 l0.length cap0 a1 l1.length cap1 W hbig).mono fin
 ·by_cases hbig2 : 20 < l1.length
  ·exact (kernelTalks_many2 a0 l0.length cap0 a1 l1.length cap1 W (by omega) hbig2).mono fin
  ·exact (kernelTalks_few a0 l0 cap0 a1 l1 cap1 W (laid_of_met hL) (by omega) hs0 (by omega) hs1).mono fin
end KernelTalks
end Go.Proofs.YtamleilijmgoeaaGreatDoor
