/- OomChooses: for every input the law returns true, and its argument reads behind the call as before. No condition. -/
import Derived.Test.YtiohpmcedfbcgaaRows
import Derived.Test.YtiohpmcedfbcgaaOomChooses
import Derived.Test.YtiohpmcedfbcgaaCandOpen
import Derived.Test.YtiohpmcedfbcgaaLaw
namespace Go.Proofs.Ytiohpmcedfbcgaa
open Go.ChangeShapes Go.WideShapes Go.ChangeAt Go.RowKit
set_option linter.unusedVariables false

theorem under_cands : Try.prog.underlying 35 = some (.slice 39) := Try.underlying35

namespace OomChooses
set_option maxRecDepth 100000 in
theorem lifted (os : Os) (started : os.Started) (H : Type) (enc : TypeId × Value → H) :
    ReturnsInHanded {} Try.checked os 4 .any (Rows.oomChoosesSpec.pre6 enc Try.prog Try.f4 Rows.oomChoosesRow.domain false) (Rows.oomChoosesSpec.post enc Try.prog Try.f4 false true false false) := by
  refine returnsInHanded_of_change (C := Try.checked) own started (by kernel_rfl) Try.func4
    (ChangeSpec.witness6 (enc := enc) (C := Try.checked) false ⟨#[], #[.slice none 0 0], []⟩ 8 (by kernel_rfl) (by kernel_rfl) (by kernel_rfl) (by kernel_rfl)) ?_
  intro W base args ds gs before hval0 hW hcnd _
  have hval : ∀ (j : Nat) t v, Try.f4.params[j]? = some t → args[j]? = some v → Value.okWide Try.prog W .any base t v := hval0
  have hW' := hW
  obtain ⟨p, q, hA0, hV, rfl, hfz, hnd⟩ := hW
  have hA : DataW.TrodAll enc Try.prog W 0 (fun _ => true) true Try.f4.params.toList args.toList ds p := hA0
  rw [Try.params4] at hA hval
  obtain ⟨v0, vs0, d0, ds0, p0, q0, hargs, rfl, rfl, h0, r0⟩ := trodAll_cons hA
  obtain ⟨rfl, rfl, rfl⟩ := trodAll_nil r0
  obtain rfl : args = #[v0] := by cases args; simp_all
  obtain ⟨rfl, rfl⟩ := trodVars_none hV
  obtain ⟨a, n, cap, rfl, hn, hcase⟩ := open_structs under_cands Try.underlying39 (by kernel_rfl) (by kernel_rfl) (by decide) (hval 0 35 v0 rfl rfl) h0
  have fin : ∀ e W', (e = Ending.returned (.bool true) ∧ Turn (fun _ => False) W W') → ∃ v, e = .returned v ∧ Rows.oomChoosesSpec.post enc Try.prog Try.f4 false true false false W #[.slice a n cap] v W' := by
    intro e W' ⟨he, hg⟩
    subst he
    exact ⟨_, rfl, law_post hW' rfl rfl rfl (by kernel_rfl) ((hg.mono (fun k hk h => h.elim)).below (Nat.le_refl _))⟩
  by_cases hbig : 40 < n
  · exact (chooses_many a n cap W hbig (by unfold maxLen at hn; omega)).mono fin
  · rcases hcase with rfl | ⟨b, off, rfl, hb, hst⟩
    · exact (chooses_none a cap W).mono fin
    · obtain ⟨xs, rfl, hc⟩ := rcand_ints hst rfl (by intro j f hf; match j, hf with | 0, hf => cases hf; rfl | 1, hf => cases hf; rfl | 2, hf => cases hf; rfl)
      by_cases hne : xs = []
      · subst hne
        exact (chooses_none _ cap W).mono fin
      · exact (chooses_some b off cap xs W hc (by omega) hne hb).mono fin

theorem over : Rows.oomChoosesRow.holds Try.pinned (OpenSpec.ofChange Rows.oomChoosesSpec) :=
  OpenClaim.holds_of_wide 4 Try.f4 rfl rfl rfl rfl rfl rfl rfl ⟨rfl, rfl, rfl, rfl, rfl⟩ rfl rfl rfl rfl rfl (by kernel_rfl) Try.func4 (by kernel_rfl)
    (of_decide_eq_true (by kernel_rfl)) (by unfold Func.isWrapper; first | (rw [if_pos (by decide +kernel)]; kernel_rfl) | (rw [if_neg (by decide +kernel)]; exact ⟨rfl, rfl⟩))
    (fun os started H enc _ => lifted os started H enc)
end OomChooses

theorem oomChooses_holds : Rows.OomChoosesSaid := OomChooses.over
#print axioms oomChooses_holds
end Go.Proofs.Ytiohpmcedfbcgaa
