/- OomFair: for every input the law returns true, and its argument reads behind the call as before. No condition. -/
import Derived.Test.YtiohpmcedfbcgaaRows
import Derived.Test.YtiohpmcedfbcgaaOomFair
import Derived.Test.YtiohpmcedfbcgaaCandOpen
import Derived.Test.YtiohpmcedfbcgaaLaw
namespace Go.Proofs.Ytiohpmcedfbcgaa
open Go.ChangeShapes Go.WideShapes Go.ChangeAt Go.RowKit
set_option linter.unusedVariables false

theorem under_faircands : Try.prog.underlying 36 = some (.slice 38) := Try.underlying36

namespace OomFair
set_option maxRecDepth 100000 in
theorem lifted (os : Os) (started : os.Started) (H : Type) (enc : TypeId × Value → H) :
    ReturnsInHanded {} Try.checked os 5 .any (Rows.oomFairSpec.pre6 enc Try.prog Try.f5 Rows.oomFairRow.domain false) (Rows.oomFairSpec.post enc Try.prog Try.f5 false true false false) := by
  refine returnsInHanded_of_change (C := Try.checked) own started (by kernel_rfl) Try.func5
    (ChangeSpec.witness6 (enc := enc) (C := Try.checked) false ⟨#[], #[.slice none 0 0, .int .i64 0, .int .i64 0], []⟩ 8 (by kernel_rfl) (by kernel_rfl) (by kernel_rfl) (by kernel_rfl)) ?_
  intro W base args ds gs before hval0 hW hcnd _
  have hval : ∀ (j : Nat) t v, Try.f5.params[j]? = some t → args[j]? = some v → Value.okWide Try.prog W .any base t v := hval0
  have hW' := hW
  obtain ⟨p, q, hA0, hV, rfl, hfz, hnd⟩ := hW
  have hA : DataW.TrodAll enc Try.prog W 0 (fun _ => true) true Try.f5.params.toList args.toList ds p := hA0
  rw [Try.params5] at hA hval
  obtain ⟨v0, vs0, d0, ds0, p0, q0, hargs, rfl, rfl, h0, r0⟩ := trodAll_cons hA
  obtain ⟨v1, vs1, d1, ds1, p1, q1, rfl, rfl, rfl, h1, r1⟩ := trodAll_cons r0
  obtain ⟨v2, vs2, d2, ds2, p2, q2, rfl, rfl, rfl, h2, r2⟩ := trodAll_cons r1
  obtain ⟨rfl, rfl, rfl⟩ := trodAll_nil r2
  obtain rfl : args = #[v0, v1, v2] := by cases args; simp_all
  obtain ⟨rfl, rfl⟩ := trodVars_none hV
  obtain ⟨x, rfl, rfl, rfl, w1⟩ := open_int Try.underlying3 (hval 1 3 v1 rfl rfl) h1
  obtain ⟨y, rfl, rfl, rfl, w2⟩ := open_int Try.underlying3 (hval 2 3 v2 rfl rfl) h2
  obtain ⟨a, n, cap, rfl, hnc, hcm, hcase⟩ := open_structs_cap under_faircands Try.underlying38 (by kernel_rfl) (by kernel_rfl) (by decide) (hval 0 36 v0 rfl rfl) h0
  have hm : maxLen = 9223372036854775807 := rfl
  have fin : ∀ e W', (e = Ending.returned (.bool true) ∧ Turn (fun _ => False) W W') → ∃ v, e = .returned v ∧ Rows.oomFairSpec.post enc Try.prog Try.f5 false true false false W #[.slice a n cap, .int .i64 x, .int .i64 y] v W' := by
    intro e W' ⟨he, hg⟩
    subst he
    exact ⟨_, rfl, law_post hW' rfl rfl rfl (by kernel_rfl) ((hg.mono (fun k hk h => h.elim)).below (Nat.le_refl _))⟩
  by_cases hbig : 30 < n
  · exact (fair_many a n cap x y W hbig (by omega)).mono fin
  · rcases hcase with rfl | ⟨b, off, rfl, hb, hst⟩
    · exact (fair_none a cap x y W).mono fin
    · obtain ⟨xs, rfl, hc⟩ := rcand_ints hst rfl (by intro j f hf; match j, hf with | 0, hf => cases hf; rfl | 1, hf => cases hf; rfl | 2, hf => cases hf; rfl)
      by_cases hne : xs = []
      · subst hne
        exact (fair_none _ cap x y W).mono fin
      · exact (fair_some b off cap xs x y W hc (by omega) hne hb hnc (by omega)).mono fin

theorem over : Rows.oomFairRow.holds Try.pinned (OpenSpec.ofChange Rows.oomFairSpec) :=
  OpenClaim.holds_of_wide 5 Try.f5 rfl rfl rfl rfl rfl rfl rfl ⟨rfl, rfl, rfl, rfl, rfl⟩ rfl rfl rfl rfl rfl (by kernel_rfl) Try.func5 (by kernel_rfl)
    (of_decide_eq_true (by kernel_rfl)) (by unfold Func.isWrapper; first | (rw [if_pos (by decide +kernel)]; kernel_rfl) | (rw [if_neg (by decide +kernel)]; exact ⟨rfl, rfl⟩))
    (fun os started H enc _ => lifted os started H enc)
end OomFair

theorem oomFair_holds : Rows.OomFairSaid := OomFair.over
#print axioms oomFair_holds
end Go.Proofs.Ytiohpmcedfbcgaa
