/- BuddyWhole: for every input the law returns true, and its arguments read behind the call as before. No condition. -/
import Derived.Test.YtiohpmcedfbcgaaRows
import Derived.Test.YtiohpmcedfbcgaaBuddyWhole
import Derived.Test.YtiohpmcedfbcgaaMoveOpen
import Derived.Test.YtiohpmcedfbcgaaLaw
namespace Go.Proofs.Ytiohpmcedfbcgaa
open Go.ChangeShapes Go.WideShapes Go.ChangeAt Go.RowKit
set_option linter.unusedVariables false

theorem under_moves : Try.prog.underlying 49 = some (.slice 85) := Try.underlying49

namespace BuddyWhole
set_option maxRecDepth 100000 in
theorem lifted (os : Os) (started : os.Started) (H : Type) (enc : TypeId × Value → H) :
    ReturnsInHanded {} Try.checked os 6 .any (Rows.buddyWholeSpec.pre6 enc Try.prog Try.f6 Rows.buddyWholeRow.domain false) (Rows.buddyWholeSpec.post enc Try.prog Try.f6 false true false false) := by
  refine returnsInHanded_of_change (C := Try.checked) own started (by kernel_rfl) Try.func6
    (ChangeSpec.witness6 (enc := enc) (C := Try.checked) false ⟨#[], #[.int .i64 0, .slice none 0 0], []⟩ 8 (by kernel_rfl) (by kernel_rfl) (by kernel_rfl) (by kernel_rfl)) ?_
  intro W base args ds gs before hval0 hW hcnd _
  have hval : ∀ (j : Nat) t v, Try.f6.params[j]? = some t → args[j]? = some v → Value.okWide Try.prog W .any base t v := hval0
  have hW' := hW
  obtain ⟨p, q, hA0, hV, rfl, hfz, hnd⟩ := hW
  have hA : DataW.TrodAll enc Try.prog W 0 (fun _ => true) true Try.f6.params.toList args.toList ds p := hA0
  rw [Try.params6] at hA hval
  obtain ⟨v0, vs0, d0, ds0, p0, q0, hargs, rfl, rfl, h0, r0⟩ := trodAll_cons hA
  obtain ⟨v1, vs1, d1, ds1, p1, q1, rfl, rfl, rfl, h1, r1⟩ := trodAll_cons r0
  obtain ⟨rfl, rfl, rfl⟩ := trodAll_nil r1
  obtain rfl : args = #[v0, v1] := by cases args; simp_all
  obtain ⟨rfl, rfl⟩ := trodVars_none hV
  obtain ⟨a0, rfl, rfl, rfl, w0⟩ := open_int Try.underlying3 (hval 0 3 v0 rfl rfl) h0
  obtain ⟨a, n, cap, rfl, hn, hcase⟩ := open_structs under_moves Try.underlying85 (by kernel_rfl) (by kernel_rfl) (by decide) (hval 1 49 v1 rfl rfl) h1
  clear hA0 hval0
  have fin : ∀ e W', (e = Ending.returned (.bool true) ∧ Turn (fun _ => False) W W') → ∃ v, e = .returned v ∧ Rows.buddyWholeSpec.post enc Try.prog Try.f6 false true false false W #[.int .i64 a0, .slice a n cap] v W' := by
    intro e W' ⟨he, hg⟩
    subst he
    exact ⟨_, rfl, law_post hW' rfl rfl rfl (by kernel_rfl) ((hg.mono (fun k hk h => h.elim)).below (Nat.le_refl _))⟩
  by_cases hbig : 60 < n
  · exact (whole_many a0 a n cap W hbig (by unfold maxLen at hn; omega)).mono fin
  · rcases hcase with rfl | ⟨b, off, rfl, hb, hst⟩
    · exact (whole_few a0 a [] cap W (by simp) (fun h => absurd rfl h)).mono fin
    · obtain ⟨xs, rfl, hc⟩ := move_list hst rfl (by intro f hf; cases hf; rfl) (by intro f hf; cases hf; rfl)
      exact (whole_few a0 _ xs cap W (by omega) (fun _ => ⟨b, off, rfl, hc, hb⟩)).mono fin

theorem over : Rows.buddyWholeRow.holds Try.pinned (OpenSpec.ofChange Rows.buddyWholeSpec) :=
  OpenClaim.holds_of_wide 6 Try.f6 rfl rfl rfl rfl rfl rfl rfl ⟨rfl, rfl, rfl, rfl, rfl⟩ rfl rfl rfl rfl rfl (by kernel_rfl) Try.func6 (by kernel_rfl)
    (of_decide_eq_true (by kernel_rfl)) (by unfold Func.isWrapper; first | (rw [if_pos (by decide +kernel)]; kernel_rfl) | (rw [if_neg (by decide +kernel)]; exact ⟨rfl, rfl⟩))
    (fun os started H enc _ => lifted os started H enc)
end BuddyWhole

theorem buddyWhole_holds : Rows.BuddyWholeSaid := BuddyWhole.over
#print axioms buddyWhole_holds
end Go.Proofs.Ytiohpmcedfbcgaa
