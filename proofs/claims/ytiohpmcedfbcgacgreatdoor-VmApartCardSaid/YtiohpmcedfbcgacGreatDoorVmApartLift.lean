/- Several texts of ours in one, in build order (VmApartLift, VmApartFacts). Conditions: each theorem's own premises. -/
import Derived.Test.YtiohpmcedfbcgacGreatDoorRows
import Derived.Test.YtiohpmcedfbcgacGreatDoorVmApart
import Derived.Test.YtiohpmcedfbcgacGreatDoorIntsOpen
import Derived.Test.YtiohpmcedfbcgacGreatDoorLaw
import Derived.Test.YtiohpmcedfbcgacGreatDoorLaidNum
import Derived.Test.YtiohpmcedfbcgacGreatDoorTie
import Derived.Test.YtiohpmcedfbcgacGreatDoorCards
import Derived.SevenTiedAt
/- VmApart, the run from every start: for every input the law returns true, and its arguments read behind the call as before. Condition: the row's own, that errors.errorType is laid; the card ties it to the program's text. -/
namespace Go.Proofs.YtiohpmcedfbcgacGreatDoor
open Go.ChangeShapes Go.WideShapes Go.ChangeAt Go.RowKit
set_option linter.unusedVariables false

theorem i64_of_wf {z : Int} (h : (Lit.int .i64 z).wf = true) : I64 z := by
  have h3 : IntKind.i64.min = -9223372036854775808 := by decide
  have h4 : IntKind.i64.max = 9223372036854775807 := by decide
  simp [Lit.wf, h3, h4] at h
  exact ⟨by omega, by omega⟩
theorem use_list {H : Type} {enc : TypeId × Value → H} {W : World} {fs : Array Field} {b off n : Nat} (h : StructsAt enc Tryz.prog W fs b off n) (hs : fs.size = 5) (ht : ∀ (j : Nat) (f : Field), fs[j]? = some f → Tryz.prog.underlying f.type = some (.int .i64)) :
    ∃ xs : List Us, xs.length = n ∧ UsesAt W b off xs := by
  obtain ⟨g, hg⟩ := struct_ints h ht
  rw [hs] at hg
  refine ⟨(List.range n).map fun i => (g i 0, g i 1, g i 2, g i 3, g i 4), by simp, ?_⟩
  intro i c hc
  have hi : i < n := by
    have := (List.getElem?_eq_some_iff.1 hc).1
    simpa using this
  simp only [List.getElem?_map, List.getElem?_range hi, Option.map_some, Option.some.injEq] at hc
  subst hc
  exact ⟨(hg i 0 hi (by decide)).1, (hg i 1 hi (by decide)).1, (hg i 2 hi (by decide)).1, (hg i 3 hi (by decide)).1, (hg i 4 hi (by decide)).1, i64_of_wf (hg i 4 hi (by decide)).2⟩
namespace VmApart
set_option maxRecDepth 100000 in
theorem lifted (os : Os) (started : os.Started) (H : Type) (enc : TypeId × Value → H) :
    ReturnsInHanded {} Tryz.checked os 3 .any (fun w args => (Rows.vmApartSpec.pre enc Tryz.prog Tryz.f3 [] false w args ∧ laidMetH Tryz.prog laidNum w) ∧ sizedMet enc Tryz.prog Tryz.f3 (OpenSpec.ofChange Rows.vmApartSpec) false w args)
      (Rows.vmApartSpec.post enc Tryz.prog Tryz.f3 false true false false) := by
  refine returnsInHanded_of_change_and (C := Tryz.checked) (X := fun w _ => laidMetH Tryz.prog laidNum w) (fun _ _ _ hh h => h.of_heap hh) own started (by kernel_rfl) Tryz.func3
    (ChangeSpec.witness_at (enc := enc) (C := Tryz.checked) (os := os) (X := fun w _ => laidMetH Tryz.prog laidNum w) false (laidWorldN os) #[.int .i64 0, .slice none 0 0, .slice none 0 0, .slice none 0 0] 8 rfl (by kernel_rfl) (by kernel_rfl) (by kernel_rfl) (by kernel_rfl) (by kernel_rfl) (laidWorldN_met os _)) ?_
  intro W base args ds gs before hval0 hW _ _ hL _
  have hval : ∀ (j : Nat) t v, Tryz.f3.params[j]? = some t → args[j]? = some v → Value.okWide Tryz.prog W .any base t v := hval0
  have hW' := hW
  obtain ⟨p, q, hA0, hV, rfl, hfz, hnd⟩ := hW
  have hA : DataW.TrodAll enc Tryz.prog W 0 (fun _ => true) true Tryz.f3.params.toList args.toList ds p := hA0
  rw [Tryz.params3] at hA hval
  obtain ⟨v0, vs0, d0, ds0, p0, q0, hargs, rfl, rfl, h0, r0⟩ := trodAll_cons hA
  obtain ⟨v1, vs1, d1, ds1, p1, q1, rfl, rfl, rfl, h1, r1⟩ := trodAll_cons r0
  obtain ⟨v2, vs2, d2, ds2, p2, q2, rfl, rfl, rfl, h2, r2⟩ := trodAll_cons r1
  obtain ⟨v3, vs3, d3, ds3, p3, q3, rfl, rfl, rfl, h3, r3⟩ := trodAll_cons r2
  obtain ⟨rfl, rfl, rfl⟩ := trodAll_nil r3
  obtain rfl : args = #[v0, v1, v2, v3] := by cases args; simp_all
  obtain ⟨rfl, rfl⟩ := trodVars_none hV
  obtain ⟨hg, htb⟩ := laidNum_met hL
  have hm : maxLen = 9223372036854775807 := rfl
  obtain ⟨z, rfl, rfl, rfl, wz⟩ := open_int Tryz.underlying3 (hval 0 3 v0 rfl rfl) h0
  obtain ⟨a1, n1, cap1, rfl, hn1, hcase1⟩ := open_structs Tryz.underlying22 Tryz.underlying35 (by kernel_rfl) (by kernel_rfl) (by decide) (hval 1 22 v1 rfl rfl) h1
  obtain ⟨a2, n2, cap2, rfl, hn2, hcase2⟩ := open_structs Tryz.underlying22 Tryz.underlying35 (by kernel_rfl) (by kernel_rfl) (by decide) (hval 2 22 v2 rfl rfl) h2
  obtain ⟨a3, n3, cap3, rfl, hn3, hcase3⟩ := open_structs Tryz.underlying22 Tryz.underlying35 (by kernel_rfl) (by kernel_rfl) (by decide) (hval 3 22 v3 rfl rfl) h3
  have fin : ∀ e W', (e = Ending.returned (.bool true) ∧ Turn (fun _ => False) W W') → ∃ v, e = .returned v ∧ Rows.vmApartSpec.post enc Tryz.prog Tryz.f3 false true false false W #[.int .i64 z, .slice a1 n1 cap1, .slice a2 n2 cap2, .slice a3 n3 cap3] v W' := by
    intro e W' ⟨he, hg⟩
    subst he
    exact ⟨_, rfl, law_post hW' rfl rfl rfl (by kernel_rfl) ((hg.mono (fun k hk h => h.elim)).below (Nat.le_refl _))⟩
  by_cases hbig : 25 < n1 ∨ 25 < n2 ∨ 25 < n3
  · exact (vmApart_many z a1 a2 a3 n1 n2 n3 cap1 cap2 cap3 W (by omega) (by omega) (by omega) hbig).mono fin
  · have one : ∀ (a : Option Addr) (n : Nat) (fs : Array Field), Tryz.prog.underlying 35 = some (.struct fs) → (n = 0 ∨ ∃ b off, a = some ⟨b, off, none⟩ ∧ b < W.heap.size ∧ StructsAt enc Tryz.prog W fs b off n) → ∃ xs : List Us, xs.length = n ∧ (xs ≠ [] → ∃ b off, a = some ⟨b, off, none⟩ ∧ UsesAt W b off xs ∧ b < W.heap.size) := by
      intro a n fs hfs hcase
      have e := Option.some.inj (hfs.symm.trans Tryz.underlying35)
      injection e with e
      subst e
      rcases hcase with rfl | ⟨b, off, rfl, hb, hst⟩
      · exact ⟨[], rfl, fun h => absurd rfl h⟩
      · obtain ⟨xs, rfl, hc⟩ := use_list hst rfl (fun j f hf => by
          rcases j with _ | _ | _ | _ | _ | j
          · cases hf; exact Tryz.underlying3
          · cases hf; exact Tryz.underlying3
          · cases hf; exact Tryz.underlying3
          · cases hf; exact Tryz.underlying3
          · cases hf; exact Tryz.underlying2
          · simp at hf)
        exact ⟨xs, rfl, fun _ => ⟨b, off, rfl, hc, hb⟩⟩
    obtain ⟨xs1, rfl, hx1⟩ := one a1 n1 _ Tryz.underlying35 hcase1
    obtain ⟨xs2, rfl, hx2⟩ := one a2 n2 _ Tryz.underlying35 hcase2
    obtain ⟨xs3, rfl, hx3⟩ := one a3 n3 _ Tryz.underlying35 hcase3
    exact (vmApart_few z a1 a2 a3 xs1 xs2 xs3 cap1 cap2 cap3 W hg htb (by omega) (by omega) (by omega) hx1 hx2 hx3).mono fin

end VmApart
end Go.Proofs.YtiohpmcedfbcgacGreatDoor
/- VmApart: the closed facts of its row, each by itself (a great program's facts outgrow one declaration). No condition. -/
namespace Go.Proofs.YtiohpmcedfbcgacGreatDoor
open Go.ChangeShapes Go.WideShapes Go.ChangeAt Go.RowKit
set_option linter.unusedVariables false

theorem and_split {a b : Bool} (ha : a = true) (hb : b = true) : (a && b) = true := by rw [ha, hb]; rfl
namespace VmApart
theorem named : Tryz.pinned.checked.prog.funcNamed Rows.vmApartRow.func = some 3 := by kernel_rfl
set_option maxRecDepth 100000 in
set_option maxHeartbeats 4000000 in
theorem closed : joinedFacts Tryz.pinned.checked.prog 3 Tryz.f3 Rows.vmApartSpec Rows.vmApartRow = true := by
  unfold joinedFacts
  refine and_split (and_split (and_split (and_split (and_split (and_split (and_split (and_split (and_split (and_split (and_split (and_split (and_split (and_split (and_split (and_split (and_split (and_split (and_split (and_split (and_split (and_split (and_split (and_split (and_split (and_split (and_split (and_split (and_split (and_split (and_split ?_ ?_) ?_) ?_) ?_) ?_) ?_) ?_) ?_) ?_) ?_) ?_) ?_) ?_) ?_) ?_) ?_) ?_) ?_) ?_) ?_) ?_) ?_) ?_) ?_) ?_) ?_) ?_) ?_) ?_) ?_) ?_
  · as_aux_lemma => kernel_rfl
  · as_aux_lemma => kernel_rfl
  · as_aux_lemma => kernel_rfl
  · as_aux_lemma => kernel_rfl
  · as_aux_lemma => kernel_rfl
  · as_aux_lemma => kernel_rfl
  · as_aux_lemma => kernel_rfl
  · as_aux_lemma => kernel_rfl
  · as_aux_lemma => kernel_rfl
  · as_aux_lemma => kernel_rfl
  · as_aux_lemma => kernel_rfl
  · as_aux_lemma => kernel_rfl
  · as_aux_lemma => kernel_rfl
  · as_aux_lemma => kernel_rfl
  · as_aux_lemma => kernel_rfl
  · as_aux_lemma => kernel_rfl
  · as_aux_lemma => kernel_rfl
  · as_aux_lemma => kernel_rfl
  · as_aux_lemma => kernel_rfl
  · as_aux_lemma => kernel_rfl
  · as_aux_lemma => kernel_rfl
  · as_aux_lemma => kernel_rfl
  · as_aux_lemma => kernel_rfl
  · as_aux_lemma => kernel_rfl
  · as_aux_lemma => kernel_rfl
  · as_aux_lemma => kernel_rfl
  · as_aux_lemma => kernel_rfl
  · as_aux_lemma => kernel_rfl
  · as_aux_lemma => kernel_rfl
  · as_aux_lemma => kernel_rfl
  · as_aux_lemma => kernel_rfl
  · as_aux_lemma => kernel_rfl
theorem instanced : Tryz.f3.isInstance Tryz.pinned.checked.prog Rows.vmApartRow.origin Rows.vmApartRow.targs := of_decide_eq_true (by kernel_rfl)
theorem wrapped : Tryz.f3.isWrapper Tryz.pinned.checked.prog Rows.vmApartRow.wrapper Rows.vmApartRow.mainSum := by unfold Func.isWrapper; first | (rw [if_pos (by decide +kernel)]; kernel_rfl) | (rw [if_neg (by decide +kernel)]; exact ⟨rfl, rfl⟩)
end VmApart
end Go.Proofs.YtiohpmcedfbcgacGreatDoor
