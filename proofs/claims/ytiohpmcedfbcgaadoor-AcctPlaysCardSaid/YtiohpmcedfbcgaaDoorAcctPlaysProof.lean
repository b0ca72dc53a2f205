/- AcctPlays: for every input the law returns true, and its arguments read behind the call as before. Condition: the row's own, that errors.errorType and almshouseref.Fine are laid; the card ties it to the program's text. -/
import Derived.Test.YtiohpmcedfbcgaaDoorRows
import Derived.Test.YtiohpmcedfbcgaaDoorAcctPlays
import Derived.Test.YtiohpmcedfbcgaaDoorOpen
import Derived.Test.YtiohpmcedfbcgaaDoorLaw
import Derived.Test.YtiohpmcedfbcgaaDoorLaidTwo
import Derived.Test.YtiohpmcedfbcgaaDoorTie
import Derived.Test.YtiohpmcedfbcgaaDoorCards
import Derived.SevenTiedAt
namespace Go.Proofs.YtiohpmcedfbcgaaDoor
open Go.ChangeShapes Go.WideShapes Go.ChangeAt Go.RowKit
set_option linter.unusedVariables false

theorem ops_of {H : Type} {enc : TypeId × Value → H} {W : World} {fs : Array Field} {b off n : Nat} (h : StructsAt enc Tryd.prog W fs b off n) (hs : fs.size = 4)
    (h0 : ∀ f, fs[0]? = some f → f.type = 3) (h1 : ∀ f, fs[1]? = some f → f.type = 3) (h2 : ∀ f, fs[2]? = some f → f.type = 3) (h3 : ∀ f, fs[3]? = some f → f.type = 2) :
    ∃ xs : List (Int × Int × Int × Int), xs.length = n ∧ OpsAt W b off xs := by
  have get : ∀ i, i < n → ∃ z : Int × Int × Int × Int, W.cell? ⟨b, off + i * 4, none⟩ = some (.int .i64 z.1) ∧ W.cell? ⟨b, off + i * 4 + 1, none⟩ = some (.int .i64 z.2.1) ∧ W.cell? ⟨b, off + i * 4 + 2, none⟩ = some (.int .i64 z.2.2.1) ∧ W.cell? ⟨b, off + i * 4 + 3, none⟩ = some (.int .i64 z.2.2.2) := by
    intro i hi
    have hf : fs[0]? = some (fs[0]'(by omega)) := by simp
    have hf1 : fs[1]? = some (fs[1]'(by omega)) := by simp
    have hf2 : fs[2]? = some (fs[2]'(by omega)) := by simp
    have hf3 : fs[3]? = some (fs[3]'(by omega)) := by simp
    obtain ⟨v, y, m, hc, hd⟩ := h i 0 _ hi hf
    obtain ⟨v1, y1, m1, hc1, hd1⟩ := h i 1 _ hi hf1
    obtain ⟨v2, y2, m2, hc2, hd2⟩ := h i 2 _ hi hf2
    obtain ⟨v3, y3, m3, hc3, hd3⟩ := h i 3 _ hi hf3
    rw [h0 _ hf] at hd
    rw [h1 _ hf1] at hd1
    rw [h2 _ hf2] at hd2
    rw [h3 _ hf3] at hd3
    obtain ⟨z, hz, _, _⟩ := DataW.trod_int Tryd.underlying3 hd
    obtain ⟨z1, hz1, _, _⟩ := DataW.trod_int Tryd.underlying3 hd1
    obtain ⟨z2, hz2, _, _⟩ := DataW.trod_int Tryd.underlying3 hd2
    obtain ⟨z3, hz3, _, _⟩ := DataW.trod_int Tryd.underlying2 hd3
    simp only [List.cons.injEq, and_true] at hz hz1 hz2 hz3
    subst hz; subst hz1; subst hz2; subst hz3
    rw [hs] at hc hc1 hc2 hc3
    exact ⟨(z, z1, z2, z3), hc, by rw [Nat.add_assoc]; exact hc1, by rw [Nat.add_assoc]; exact hc2, by rw [Nat.add_assoc]; exact hc3⟩
  obtain ⟨g, hg⟩ := Go.Deep.choose_lt get
  refine ⟨(List.range n).map g, by simp, ?_⟩
  intro i c hc
  have hi : i < n := by
    have := (List.getElem?_eq_some_iff.1 hc).1
    simpa using this
  simp only [List.getElem?_map, List.getElem?_range hi, Option.map_some, Option.some.injEq] at hc
  subst hc
  exact hg i hi

theorem asks_of {H : Type} {enc : TypeId × Value → H} {W : World} {fs : Array Field} {b off n : Nat} (h : StructsAt enc Tryd.prog W fs b off n) (hs : fs.size = 2)
    (h0 : ∀ f, fs[0]? = some f → f.type = 3) (h1 : ∀ f, fs[1]? = some f → f.type = 3) :
    ∃ xs : List (Int × Int), xs.length = n ∧ AsksAt W b off xs := by
  have get : ∀ i, i < n → ∃ z : Int × Int, W.cell? ⟨b, off + i * 2, none⟩ = some (.int .i64 z.1) ∧ W.cell? ⟨b, off + i * 2 + 1, none⟩ = some (.int .i64 z.2) := by
    intro i hi
    have hf : fs[0]? = some (fs[0]'(by omega)) := by simp
    have hf1 : fs[1]? = some (fs[1]'(by omega)) := by simp
    obtain ⟨v, y, m, hc, hd⟩ := h i 0 _ hi hf
    obtain ⟨v1, y1, m1, hc1, hd1⟩ := h i 1 _ hi hf1
    rw [h0 _ hf] at hd
    rw [h1 _ hf1] at hd1
    obtain ⟨z, hz, _, _⟩ := DataW.trod_int Tryd.underlying3 hd
    obtain ⟨z1, hz1, _, _⟩ := DataW.trod_int Tryd.underlying3 hd1
    simp only [List.cons.injEq, and_true] at hz hz1
    subst hz; subst hz1
    rw [hs] at hc hc1
    exact ⟨(z, z1), hc, by rw [Nat.add_assoc]; exact hc1⟩
  obtain ⟨g, hg⟩ := Go.Deep.choose_lt get
  refine ⟨(List.range n).map g, by simp, ?_⟩
  intro i c hc
  have hi : i < n := by
    have := (List.getElem?_eq_some_iff.1 hc).1
    simpa using this
  simp only [List.getElem?_map, List.getElem?_range hi, Option.map_some, Option.some.injEq] at hc
  subst hc
  exact hg i hi

namespace AcctPlays
set_option maxRecDepth 100000 in
theorem lifted (os : Os) (started : os.Started) (H : Type) (enc : TypeId × Value → H) :
    ReturnsInHanded {} Tryd.checked os 6 .any (fun w args => (Rows.acctPlaysSpec.pre enc Tryd.prog Tryd.f6 [] false w args ∧ laidMetH Tryd.prog laidTwo w) ∧ sizedMet enc Tryd.prog Tryd.f6 (OpenSpec.ofChange Rows.acctPlaysSpec) false w args)
      (Rows.acctPlaysSpec.post enc Tryd.prog Tryd.f6 false true false false) := by
  refine returnsInHanded_of_change_and (C := Tryd.checked) (X := fun w _ => laidMetH Tryd.prog laidTwo w) (fun _ _ _ hh h => h.of_heap hh) own started (by kernel_rfl) Tryd.func6
    (ChangeSpec.witness_at (enc := enc) (C := Tryd.checked) (os := os) (X := fun w _ => laidMetH Tryd.prog laidTwo w) false (laidWorld2 os) #[.slice none 0 0, .slice none 0 0] 8 rfl (by kernel_rfl) (by kernel_rfl) (by kernel_rfl) (by kernel_rfl) (by kernel_rfl) (laidWorld2_met os _)) ?_
  intro W base args ds gs before hval0 hW _ _ hL _
  have hval : ∀ (j : Nat) t v, Tryd.f6.params[j]? = some t → args[j]? = some v → Value.okWide Tryd.prog W .any base t v := hval0
  have hW' := hW
  obtain ⟨p, q, hA0, hV, rfl, hfz, hnd⟩ := hW
  have hA : DataW.TrodAll enc Tryd.prog W 0 (fun _ => true) true Tryd.f6.params.toList args.toList ds p := hA0
  rw [Tryd.params6] at hA hval
  obtain ⟨v0, vs0, d0, ds0, p0, q0, hargs, rfl, rfl, h0, r0⟩ := trodAll_cons hA
  obtain ⟨v1, vs1, d1, ds1, p1, q1, rfl, rfl, rfl, h1, r1⟩ := trodAll_cons r0
  obtain ⟨rfl, rfl, rfl⟩ := trodAll_nil r1
  obtain rfl : args = #[v0, v1] := by cases args; simp_all
  obtain ⟨rfl, rfl⟩ := trodVars_none hV
  obtain ⟨hg, hfi⟩ := laidTwo_met hL
  have hm : maxLen = 9223372036854775807 := rfl
  obtain ⟨a, n, cap, rfl, hn, hcase⟩ := open_structs Tryd.underlying53 Tryd.underlying60 (by kernel_rfl) (by kernel_rfl) (by decide) (hval 0 53 v0 rfl rfl) h0
  obtain ⟨a2, n2, cap2, rfl, hnc, hcm, hcase2⟩ := open_structs_cap Tryd.underlying67 Tryd.underlying71 (by kernel_rfl) (by kernel_rfl) (by decide) (hval 1 67 v1 rfl rfl) h1
  have fin : ∀ e W', (e = Ending.returned (.bool true) ∧ Turn (fun _ => False) W W') → ∃ v, e = .returned v ∧ Rows.acctPlaysSpec.post enc Tryd.prog Tryd.f6 false true false false W #[.slice a n cap, .slice a2 n2 cap2] v W' := by
    intro e W' ⟨he, hg⟩
    subst he
    exact ⟨_, rfl, law_post hW' rfl rfl rfl (by kernel_rfl) ((hg.mono (fun k hk h => h.elim)).below (Nat.le_refl _))⟩
  by_cases hbig : 40 < n ∨ 20 < n2
  · exact (aplays_many a n cap a2 n2 cap2 W hbig (by omega) (by omega)).mono fin
  · obtain ⟨xs, rfl, hxs⟩ : ∃ xs : List (Int × Int × Int × Int), xs.length = n ∧ (xs ≠ [] → ∃ b off, a = some ⟨b, off, none⟩ ∧ OpsAt W b off xs ∧ b < W.heap.size) := by
      rcases hcase with rfl | ⟨b, off, rfl, hb, hst⟩
      · exact ⟨[], rfl, fun h => absurd rfl h⟩
      · obtain ⟨xs, rfl, hc⟩ := ops_of hst rfl (by intro f hf; cases hf; rfl) (by intro f hf; cases hf; rfl) (by intro f hf; cases hf; rfl) (by intro f hf; cases hf; rfl)
        exact ⟨xs, rfl, fun _ => ⟨b, off, rfl, hc, hb⟩⟩
    obtain ⟨rs, rfl, hrs⟩ : ∃ rs : List (Int × Int), rs.length = n2 ∧ LiesRow W a2 rs := by
      rcases hcase2 with rfl | ⟨b, off, rfl, hb, hst⟩
      · exact ⟨[], rfl, .inl rfl⟩
      · obtain ⟨rs, rfl, hr⟩ := asks_of hst rfl (by intro f hf; cases hf; rfl) (by intro f hf; cases hf; rfl)
        exact ⟨rs, rfl, .inr ⟨b, off, rfl, hb, hr⟩⟩
    exact (aplays_few a xs cap a2 rs cap2 W hg hfi (by omega) (by omega) hnc (by omega) hxs hrs).mono fin

theorem over : Rows.AcctPlaysSaid :=
  OpenClaim.holds_of_wide 6 Tryd.f6 rfl rfl rfl rfl rfl rfl rfl ⟨rfl, rfl, rfl, rfl, rfl⟩ rfl rfl rfl rfl rfl (by kernel_rfl) Tryd.func6 (by kernel_rfl)
    (of_decide_eq_true (by kernel_rfl)) (by unfold Func.isWrapper; first | (rw [if_pos (by decide +kernel)]; kernel_rfl) | (rw [if_neg (by decide +kernel)]; exact ⟨rfl, rfl⟩))
    (fun os started H enc _ => lifted os started H enc)
end AcctPlays

theorem acctPlays_holds : Rows.AcctPlaysCardSaid :=
  Claim7.holds_tied_plain_at .later [] [.handle, .data] true Rows.acctPlaysCard.stood.harness true
    AcctPlays.over (fun _ h => by cases h) (by kernel_rfl) (fun _ h => by cases h) acctPlays_row_tie rfl ⟨rfl, rfl⟩ (by kernel_rfl) rfl
    (fun f fn hf hfn => by
      obtain rfl : f = 6 := Option.some.inj ((show Tryd.prog.funcNamed "almshouse/almshouselaw.AcctPlays" = some 6 by kernel_rfl).symm.trans hf) |>.symm
      obtain rfl : fn = Tryd.f6 := (Option.some.inj (Tryd.func6.symm.trans hfn)).symm
      exact ⟨by kernel_rfl, fun j t ht => by
        rw [Tryd.params6] at ht
        have h3 : t = 53 ∨ t = 67 := by
          rcases j with _ | _ | j
          · exact .inl (by simpa using ht.symm)
          · exact .inr (by simpa using ht.symm)
          · simp at ht
        rcases h3 with rfl | rfl
        · exact (show Tryd.prog.wantsStandIn 53 = false by kernel_rfl)
        · exact (show Tryd.prog.wantsStandIn 67 = false by kernel_rfl)⟩)
    (by kernel_rfl)
#print axioms acctPlays_holds
end Go.Proofs.YtiohpmcedfbcgaaDoor
