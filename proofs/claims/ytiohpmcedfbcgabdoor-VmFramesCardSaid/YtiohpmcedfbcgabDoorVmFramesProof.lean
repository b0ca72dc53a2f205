/- VmFrames: for every input the law returns true, and its arguments read behind the call as before. Condition: the row's own, that errors.errorType is laid; the card ties it to the program's text. -/
import Derived.Test.YtiohpmcedfbcgabDoorRows
import Derived.Test.YtiohpmcedfbcgabDoorVmFrames
import Derived.Test.YtiohpmcedfbcgabDoorIntsOpen
import Derived.Test.YtiohpmcedfbcgabDoorRowsOpen
import Derived.Test.YtiohpmcedfbcgabDoorLaw
import Derived.Test.YtiohpmcedfbcgabDoorLaidLaw
import Derived.Test.YtiohpmcedfbcgabDoorTie
import Derived.Test.YtiohpmcedfbcgabDoorCards
import Derived.SevenTiedAt
namespace Go.Proofs.YtiohpmcedfbcgabDoor
open Go.ChangeShapes Go.WideShapes Go.ChangeAt Go.RowKit
set_option linter.unusedVariables false

theorem use_list {H : Type} {enc : TypeId × Value → H} {W : World} {fs : Array Field} {b off n : Nat} (h : StructsAt enc Tryd.prog W fs b off n) (hs : fs.size = 5) (ht : ∀ (j : Nat) (f : Field), fs[j]? = some f → Tryd.prog.underlying f.type = some (.int .i64)) :
    ∃ xs : List Us, xs.length = n ∧ UsesAt W b off xs := by
  obtain ⟨g, hg⟩ := struct_ints h ht
  rw [hs] at hg
  refine ⟨(List.range n).map fun i => (g i 0, g i 1, g i 2, g i 3, g i 4), by simp, ?_⟩
  intro i c hc
  have hi : i < n := by
    have := (List.getElem?_eq_some_iff.1 hc).1
    simpa using this
  simp only [List.getElem?_map, List.getElem?_range hi, Option.map_some, Option.some.injEq] at hc
  subst hc
  exact ⟨hg i 0 hi (by decide), hg i 1 hi (by decide), hg i 2 hi (by decide), hg i 3 hi (by decide), hg i 4 hi (by decide)⟩
namespace VmFrames
set_option maxRecDepth 100000 in
theorem lifted (os : Os) (started : os.Started) (H : Type) (enc : TypeId × Value → H) :
    ReturnsInHanded {} Tryd.checked os 9 .any (fun w args => (Rows.vmFramesSpec.pre enc Tryd.prog Tryd.f9 [] false w args ∧ laidMetH Tryd.prog laidOne w) ∧ sizedMet enc Tryd.prog Tryd.f9 (OpenSpec.ofChange Rows.vmFramesSpec) false w args)
      (Rows.vmFramesSpec.post enc Tryd.prog Tryd.f9 false true false false) := by
  refine returnsInHanded_of_change_and (C := Tryd.checked) (X := fun w _ => laidMetH Tryd.prog laidOne w) (fun _ _ _ hh h => h.of_heap hh) own started (by kernel_rfl) Tryd.func9
    (ChangeSpec.witness_at (enc := enc) (C := Tryd.checked) (os := os) (X := fun w _ => laidMetH Tryd.prog laidOne w) false (laidWorld os) #[.int .i64 0, .slice none 0 0, .slice none 0 0] 8 rfl (by kernel_rfl) (by kernel_rfl) (by kernel_rfl) (by kernel_rfl) (by kernel_rfl) (laidWorld_met os _)) ?_
  intro W base args ds gs before hval0 hW _ _ hL _
  have hval : ∀ (j : Nat) t v, Tryd.f9.params[j]? = some t → args[j]? = some v → Value.okWide Tryd.prog W .any base t v := hval0
  have hW' := hW
  obtain ⟨p, q, hA0, hV, rfl, hfz, hnd⟩ := hW
  have hA : DataW.TrodAll enc Tryd.prog W 0 (fun _ => true) true Tryd.f9.params.toList args.toList ds p := hA0
  rw [Tryd.params9] at hA hval
  obtain ⟨v0, vs0, d0, ds0, p0, q0, hargs, rfl, rfl, h0, r0⟩ := trodAll_cons hA
  obtain ⟨v1, vs1, d1, ds1, p1, q1, rfl, rfl, rfl, h1, r1⟩ := trodAll_cons r0
  obtain ⟨v2, vs2, d2, ds2, p2, q2, rfl, rfl, rfl, h2, r2⟩ := trodAll_cons r1
  obtain ⟨rfl, rfl, rfl⟩ := trodAll_nil r2
  obtain rfl : args = #[v0, v1, v2] := by cases args; simp_all
  obtain ⟨rfl, rfl⟩ := trodVars_none hV
  have hg := laid_of_met hL
  have hm : maxLen = 9223372036854775807 := rfl
  obtain ⟨z, rfl, rfl, rfl, wz⟩ := open_int Tryd.underlying3 (hval 0 3 v0 rfl rfl) h0
  obtain ⟨a, n, cap, rfl, hn, hcase⟩ := open_structs Tryd.underlying103 Tryd.underlying113 (by kernel_rfl) (by kernel_rfl) (by decide) (hval 1 103 v1 rfl rfl) h1
  obtain ⟨a2, n2, cap2, rfl, hn2, hcase2⟩ := open_nums Tryd.underlying70 Tryd.underlying3 (by kernel_rfl) (hval 2 70 v2 rfl rfl) h2
  have fin : ∀ e W', (e = Ending.returned (.bool true) ∧ Turn (fun _ => False) W W') → ∃ v, e = .returned v ∧ Rows.vmFramesSpec.post enc Tryd.prog Tryd.f9 false true false false W #[.int .i64 z, .slice a n cap, .slice a2 n2 cap2] v W' := by
    intro e W' ⟨he, hg⟩
    subst he
    exact ⟨_, rfl, law_post hW' rfl rfl rfl (by kernel_rfl) ((hg.mono (fun k hk h => h.elim)).below (Nat.le_refl _))⟩
  by_cases hbig : 40 < n ∨ 10 < n2
  · exact (vmFrames_many z a a2 n n2 cap cap2 W (by omega) (by omega) hbig).mono fin
  · obtain ⟨xs, rfl, hxs⟩ : ∃ xs : List Us, xs.length = n ∧ (xs ≠ [] → ∃ b off, a = some ⟨b, off, none⟩ ∧ UsesAt W b off xs ∧ b < W.heap.size) := by
      rcases hcase with rfl | ⟨b, off, rfl, hb, hst⟩
      · exact ⟨[], rfl, fun h => absurd rfl h⟩
      · obtain ⟨xs, rfl, hc⟩ := use_list hst rfl (fun j f hf => by
          rcases j with _ | _ | _ | _ | _ | j
          · cases hf; exact Tryd.underlying3
          · cases hf; exact Tryd.underlying3
          · cases hf; exact Tryd.underlying3
          · cases hf; exact Tryd.underlying3
          · cases hf; exact Tryd.underlying2
          · simp at hf)
        exact ⟨xs, rfl, fun _ => ⟨b, off, rfl, hc, hb⟩⟩
    obtain ⟨fs, rfl, hfs⟩ : ∃ fs : List Int, fs.length = n2 ∧ (fs ≠ [] → ∃ b off, a2 = some ⟨b, off, none⟩ ∧ NumsAt W b off fs ∧ b < W.heap.size) := by
      rcases hcase2 with rfl | ⟨b, off, rfl, hb, fs, rfl, hc⟩
      · exact ⟨[], rfl, fun h => absurd rfl h⟩
      · exact ⟨fs, rfl, fun _ => ⟨b, off, rfl, hc, hb⟩⟩
    exact (vmFrames_few z a a2 xs fs cap cap2 W hg (by omega) (by omega) hxs hfs).mono fin

theorem over : Rows.VmFramesSaid :=
  OpenClaim.holds_of_wide 9 Tryd.f9 rfl rfl rfl rfl rfl rfl rfl ⟨rfl, rfl, rfl, rfl, rfl⟩ rfl rfl rfl rfl rfl (by kernel_rfl) Tryd.func9 (by kernel_rfl)
    (of_decide_eq_true (by kernel_rfl)) (by unfold Func.isWrapper; first | (rw [if_pos (by decide +kernel)]; kernel_rfl) | (rw [if_neg (by decide +kernel)]; exact ⟨rfl, rfl⟩))
    (fun os started H enc _ => lifted os started H enc)
end VmFrames

theorem vmFrames_holds : Rows.VmFramesCardSaid :=
  Claim7.holds_tied_plain_at .later [] [.handle] true Rows.vmFramesCard.stood.harness true
    VmFrames.over (fun _ h => by cases h) (by kernel_rfl) (fun _ h => by cases h) vmFrames_row_tie rfl ⟨rfl, rfl⟩ (by kernel_rfl) rfl
    (fun f fn hf hfn => by
      obtain rfl : f = 9 := Option.some.inj ((show Tryd.prog.funcNamed "almshouse/almshousekeep.VmFrames" = some 9 by kernel_rfl).symm.trans hf) |>.symm
      obtain rfl : fn = Tryd.f9 := (Option.some.inj (Tryd.func9.symm.trans hfn)).symm
      exact ⟨by kernel_rfl, fun j t ht => by
        rw [Tryd.params9] at ht
        have h3 : t = 3 ∨ t = 103 ∨ t = 70 := by
          rcases j with _ | _ | _ | j
          · exact .inl (by simpa using ht.symm)
          · exact .inr (.inl (by simpa using ht.symm))
          · exact .inr (.inr (by simpa using ht.symm))
          · simp at ht
        rcases h3 with rfl | rfl | rfl
        · exact (show Tryd.prog.wantsStandIn 3 = false by kernel_rfl)
        · exact (show Tryd.prog.wantsStandIn 103 = false by kernel_rfl)
        · exact (show Tryd.prog.wantsStandIn 70 = false by kernel_rfl)⟩)
    (by kernel_rfl)
#print axioms vmFrames_holds
end Go.Proofs.YtiohpmcedfbcgabDoor
