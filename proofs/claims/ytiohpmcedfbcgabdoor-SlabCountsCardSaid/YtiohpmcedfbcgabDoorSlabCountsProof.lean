/- SlabCounts: for every input the law returns true, and its arguments read behind the call as before. Condition: the row's own, that errors.errorType is laid; the card ties it to the program's text. -/
import Derived.Test.YtiohpmcedfbcgabDoorRows
import Derived.Test.YtiohpmcedfbcgabDoorSlabCounts
import Derived.Test.YtiohpmcedfbcgabDoorMoveOpen
import Derived.Test.YtiohpmcedfbcgabDoorLaw
import Derived.Test.YtiohpmcedfbcgabDoorLaidLaw
import Derived.Test.YtiohpmcedfbcgabDoorTie
import Derived.Test.YtiohpmcedfbcgabDoorCards
import Derived.SevenTiedAt
namespace Go.Proofs.YtiohpmcedfbcgabDoor
open Go.ChangeShapes Go.WideShapes Go.ChangeAt Go.RowKit
set_option linter.unusedVariables false

namespace SlabCounts
set_option maxRecDepth 100000 in
theorem lifted (os : Os) (started : os.Started) (H : Type) (enc : TypeId × Value → H) :
    ReturnsInHanded {} Tryd.checked os 8 .any (fun w args => (Rows.slabCountsSpec.pre enc Tryd.prog Tryd.f8 [] false w args ∧ laidMetH Tryd.prog laidOne w) ∧ sizedMet enc Tryd.prog Tryd.f8 (OpenSpec.ofChange Rows.slabCountsSpec) false w args)
      (Rows.slabCountsSpec.post enc Tryd.prog Tryd.f8 false true false false) := by
  refine returnsInHanded_of_change_and (C := Tryd.checked) (X := fun w _ => laidMetH Tryd.prog laidOne w) (fun _ _ _ hh h => h.of_heap hh) own started (by kernel_rfl) Tryd.func8
    (ChangeSpec.witness_at (enc := enc) (C := Tryd.checked) (os := os) (X := fun w _ => laidMetH Tryd.prog laidOne w) false (laidWorld os) #[.int .i64 0, .int .i64 0, .slice none 0 0] 8 rfl (by kernel_rfl) (by kernel_rfl) (by kernel_rfl) (by kernel_rfl) (by kernel_rfl) (laidWorld_met os _)) ?_
  intro W base args ds gs before hval0 hW _ _ hL _
  have hval : ∀ (j : Nat) t v, Tryd.f8.params[j]? = some t → args[j]? = some v → Value.okWide Tryd.prog W .any base t v := hval0
  have hW' := hW
  obtain ⟨p, q, hA0, hV, rfl, hfz, hnd⟩ := hW
  have hA : DataW.TrodAll enc Tryd.prog W 0 (fun _ => true) true Tryd.f8.params.toList args.toList ds p := hA0
  rw [Tryd.params8] at hA hval
  obtain ⟨v0, vs0, d0, ds0, p0, q0, hargs, rfl, rfl, h0, r0⟩ := trodAll_cons hA
  obtain ⟨v1, vs1, d1, ds1, p1, q1, rfl, rfl, rfl, h1, r1⟩ := trodAll_cons r0
  obtain ⟨v2, vs2, d2, ds2, p2, q2, rfl, rfl, rfl, h2, r2⟩ := trodAll_cons r1
  obtain ⟨rfl, rfl, rfl⟩ := trodAll_nil r2
  obtain rfl : args = #[v0, v1, v2] := by cases args; simp_all
  obtain ⟨rfl, rfl⟩ := trodVars_none hV
  have hg := laid_of_met hL
  have hm : maxLen = 9223372036854775807 := rfl
  obtain ⟨z, rfl, rfl, rfl, wz⟩ := open_int Tryd.underlying3 (hval 0 3 v0 rfl rfl) h0
  obtain ⟨z2, rfl, rfl, rfl, wz2⟩ := open_int Tryd.underlying3 (hval 1 3 v1 rfl rfl) h1
  obtain ⟨a, n, cap, rfl, hn, hcase⟩ := open_structs Tryd.underlying22 Tryd.underlying99 (by kernel_rfl) (by kernel_rfl) (by decide) (hval 2 22 v2 rfl rfl) h2
  have fin : ∀ e W', (e = Ending.returned (.bool true) ∧ Turn (fun _ => False) W W') → ∃ v, e = .returned v ∧ Rows.slabCountsSpec.post enc Tryd.prog Tryd.f8 false true false false W #[.int .i64 z, .int .i64 z2, .slice a n cap] v W' := by
    intro e W' ⟨he, hg⟩
    subst he
    exact ⟨_, rfl, law_post hW' rfl rfl rfl (by kernel_rfl) ((hg.mono (fun k hk h => h.elim)).below (Nat.le_refl _))⟩
  by_cases hbig : 60 < n
  · exact (counts_many z z2 a n cap W hbig (by omega)).mono fin
  · obtain ⟨xs, rfl, hxs⟩ : ∃ xs : List (Bool × Int), xs.length = n ∧ (xs ≠ [] → ∃ b off, a = some ⟨b, off, none⟩ ∧ MovesAt W b off xs ∧ b < W.heap.size) := by
      rcases hcase with rfl | ⟨b, off, rfl, hb, hst⟩
      · exact ⟨[], rfl, fun h => absurd rfl h⟩
      · obtain ⟨xs, rfl, hc⟩ := move_list hst rfl (by intro f hf; cases hf; rfl) (by intro f hf; cases hf; rfl)
        exact ⟨xs, rfl, fun _ => ⟨b, off, rfl, hc, hb⟩⟩
    exact (counts_few z z2 a xs cap W hg (by omega) hxs).mono fin

theorem over : Rows.SlabCountsSaid :=
  OpenClaim.holds_of_wide 8 Tryd.f8 rfl rfl rfl rfl rfl rfl rfl ⟨rfl, rfl, rfl, rfl, rfl⟩ rfl rfl rfl rfl rfl (by kernel_rfl) Tryd.func8 (by kernel_rfl)
    (of_decide_eq_true (by kernel_rfl)) (by unfold Func.isWrapper; first | (rw [if_pos (by decide +kernel)]; kernel_rfl) | (rw [if_neg (by decide +kernel)]; exact ⟨rfl, rfl⟩))
    (fun os started H enc _ => lifted os started H enc)
end SlabCounts

theorem slabCounts_holds : Rows.SlabCountsCardSaid :=
  Claim7.holds_tied_plain_at .later [] [.handle] true Rows.slabCountsCard.stood.harness true
    SlabCounts.over (fun _ h => by cases h) (by kernel_rfl) (fun _ h => by cases h) slabCounts_row_tie rfl ⟨rfl, rfl⟩ (by kernel_rfl) rfl
    (fun f fn hf hfn => by
      obtain rfl : f = 8 := Option.some.inj ((show Tryd.prog.funcNamed "almshouse/almshousekeep.SlabCounts" = some 8 by kernel_rfl).symm.trans hf) |>.symm
      obtain rfl : fn = Tryd.f8 := (Option.some.inj (Tryd.func8.symm.trans hfn)).symm
      exact ⟨by kernel_rfl, fun j t ht => by
        rw [Tryd.params8] at ht
        have h3 : t = 3 ∨ t = 3 ∨ t = 22 := by
          rcases j with _ | _ | _ | j
          · exact .inl (by simpa using ht.symm)
          · exact .inr (.inl (by simpa using ht.symm))
          · exact .inr (.inr (by simpa using ht.symm))
          · simp at ht
        rcases h3 with rfl | rfl | rfl
        · exact (show Tryd.prog.wantsStandIn 3 = false by kernel_rfl)
        · exact (show Tryd.prog.wantsStandIn 3 = false by kernel_rfl)
        · exact (show Tryd.prog.wantsStandIn 22 = false by kernel_rfl)⟩)
    (by kernel_rfl)
#print axioms slabCounts_holds
end Go.Proofs.YtiohpmcedfbcgabDoor
