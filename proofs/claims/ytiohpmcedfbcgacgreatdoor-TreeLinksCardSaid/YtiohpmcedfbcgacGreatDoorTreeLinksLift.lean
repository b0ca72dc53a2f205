/- TreeLinks, the run from every start: for every input the law returns true, and its arguments read behind the call as before. Condition: the row's own, that its listed variables are laid; the card ties them to the program's text. -/
import Derived.Test.YtiohpmcedfbcgacGreatDoorRows
import Derived.Test.YtiohpmcedfbcgacGreatDoorTreeLinks
import Derived.Test.YtiohpmcedfbcgacGreatDoorNumsOpen
import Derived.Test.YtiohpmcedfbcgacGreatDoorLaw
import Derived.Test.YtiohpmcedfbcgacGreatDoorLaidTree
import Derived.Test.YtiohpmcedfbcgacGreatDoorTie
import Derived.Test.YtiohpmcedfbcgacGreatDoorCards
import Derived.SevenTiedAt
import Derived.ChangeMaps5
namespace Go.Proofs.YtiohpmcedfbcgacGreatDoor
open Go.ChangeShapes Go.WideShapes Go.ChangeAt Go.RowKit
set_option linter.unusedVariables false

namespace TreeLinks
set_option maxRecDepth 100000 in
theorem lifted (os : Os) (started : os.Started) (H : Type) (enc : TypeId × Value → H) :
    ReturnsInHanded {} Tryz.checked os 6 .any (fun w args => (Rows.treeLinksSpec.pre enc Tryz.prog Tryz.f6 [] false w args ∧ laidMetH Tryz.prog laidTree w) ∧ sizedMet enc Tryz.prog Tryz.f6 (OpenSpec.ofChange Rows.treeLinksSpec) false w args)
      (Rows.treeLinksSpec.post enc Tryz.prog Tryz.f6 false true false false) := by
  refine returnsInHanded_of_change_and (C := Tryz.checked) (X := fun w _ => laidMetH Tryz.prog laidTree w) (fun _ _ _ hh h => h.of_heap hh) own started (by kernel_rfl) Tryz.func6
    (ChangeSpec.witness_at (enc := enc) (C := Tryz.checked) (os := os) (X := fun w _ => laidMetH Tryz.prog laidTree w) false (laidWorldT os) #[.int .i64 0, .slice none 0 0, .string ByteArray.empty] 8 rfl (by kernel_rfl) (by kernel_rfl) (by kernel_rfl) (by kernel_rfl) (by kernel_rfl) (laidWorldT_met os _)) ?_
  intro W base args ds gs before hval0 hW _ _ hL _
  have hval : ∀ (j : Nat) t v, Tryz.f6.params[j]? = some t → args[j]? = some v → Value.okWide Tryz.prog W .any base t v := hval0
  have hW' := hW
  obtain ⟨p, q, hA0, hV, rfl, hfz, hnd⟩ := hW
  have hA : DataW.TrodAll enc Tryz.prog W 0 (fun _ => true) true Tryz.f6.params.toList args.toList ds p := hA0
  rw [Tryz.params6] at hA hval
  obtain ⟨v0, vs0, d0, ds0, p0, q0, hargs, rfl, rfl, h0, r0⟩ := trodAll_cons hA
  obtain ⟨v1, vs1, d1, ds1, p1, q1, rfl, rfl, rfl, h1, r1⟩ := trodAll_cons r0
  obtain ⟨v2, vs2, d2, ds2, p2, q2, rfl, rfl, rfl, h2, r2⟩ := trodAll_cons r1
  obtain ⟨rfl, rfl, rfl⟩ := trodAll_nil r2
  obtain rfl : args = #[v0, v1, v2] := by cases args; simp_all
  obtain ⟨rfl, rfl⟩ := trodVars_none hV
  have hm : maxLen = 9223372036854775807 := rfl
  obtain ⟨z, rfl, rfl, rfl, wz⟩ := open_int Tryz.underlying3 (hval 0 3 v0 rfl rfl) h0
  obtain ⟨a, l, cap, rfl, hlc, hcm, hsi, hsz⟩ := open_nums Tryz.underlying65 Tryz.underlying3 (by kernel_rfl) (hval 1 65 v1 rfl rfl) h1
  obtain ⟨s, rfl, rfl, rfl, es⟩ := Go.ChangeMaps.open_string Tryz.underlying9 (hval 2 9 v2 rfl rfl) h2
  have hz : -9223372036854775808 ≤ z ∧ z ≤ 9223372036854775807 := by
    have h3 : IntKind.i64.min = -9223372036854775808 := by decide
    have h4 : IntKind.i64.max = 9223372036854775807 := by decide
    simp [Lit.wf, h3, h4] at wz
    exact ⟨by omega, by omega⟩
  have fin : ∀ e W', (e = Ending.returned (.bool true) ∧ Turn (fun _ => False) W W') → ∃ v, e = .returned v ∧ Rows.treeLinksSpec.post enc Tryz.prog Tryz.f6 false true false false W #[.int .i64 z, .slice a l.length cap, .string s] v W' := by
    intro e W' ⟨he, hg⟩
    subst he
    exact ⟨_, rfl, law_post hW' rfl rfl rfl (by kernel_rfl) ((hg.mono (fun k hk h => h.elim)).below (Nat.le_refl _))⟩
  by_cases hbig : 40 < l.length ∨ 100 < s.size
  · exact (treeLinks_long a l.length cap z s W (by omega) hbig).mono fin
  · obtain ⟨hg, htb⟩ := laidTree_met hL
    exact (treeLinks_is a l cap z s W hg htb (by omega) (by omega) hsi hsz hz).mono fin
end TreeLinks
end Go.Proofs.YtiohpmcedfbcgacGreatDoor
