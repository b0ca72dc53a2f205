/- AcctWhole: for every input the law returns true, and its arguments read behind the call as before. Condition: the row's own, that errors.errorType is laid; the card ties it to the program's text. -/
import Derived.Test.YtiohpmcedfbcgaaDoorRows
import Derived.Test.YtiohpmcedfbcgaaDoorAcctShort
import Derived.Test.YtiohpmcedfbcgaaDoorAcctLong
import Derived.Test.YtiohpmcedfbcgaaDoorRowsOpen
import Derived.Test.YtiohpmcedfbcgaaDoorLaw
import Derived.Test.YtiohpmcedfbcgaaDoorLaidLaw
import Derived.Test.YtiohpmcedfbcgaaDoorTie
import Derived.Test.YtiohpmcedfbcgaaDoorCards
import Derived.SevenTiedAt
namespace Go.Proofs.YtiohpmcedfbcgaaDoor
open Go.ChangeShapes Go.WideShapes Go.ChangeAt Go.RowKit
set_option linter.unusedVariables false

theorem asks_of {H : Type} {enc : TypeId × Value → H} {W : World} {fs : Array Field} {b off n : Nat} (h : StructsAt enc Tryd.prog W fs b off n) (hs : fs.size = 2)
    (h0 : ∀ f, fs[0]? = some f → f.type = 3) (h1 : ∀ f, fs[1]? = some f → f.type = 3) :
    ∃ xs : List (Int × Int), xs.length = n ∧ AsksAt W b off xs := by
  have get : ∀ i, i < n → ∃ z : Int × Int, W.cell? ⟨b, off + i * 2, none⟩ = some (.int .i64 z.1) ∧ W.cell? ⟨b, off + i * 2 + 1, none⟩ = some (.int .i64 z.2) := by
    intro i hi
    have hf : fs[0]? = some (fs[0]'(by omega)) := by simp
    have hf1 : fs[1]? = some (fs[1]'(by omega)) := by simp
    obtain ⟨v, y, m, hc, hd⟩ := h i 0 _ hi hf
    obtain ⟨v1, y1, m1, hc1, hd1⟩ := h i 1 _ hi hf1
    rw [h0 _ hf] at hd
    rw [h1 _ hf1] at hd1
    obtain ⟨z, hz, _, _⟩ := DataW.trod_int Tryd.underlying3 hd
    obtain ⟨z1, hz1, _, _⟩ := DataW.trod_int Tryd.underlying3 hd1
    simp only [List.cons.injEq, and_true] at hz hz1
    subst hz; subst hz1
    rw [hs] at hc hc1
    exact ⟨(z, z1), hc, by rw [Nat.add_assoc]; exact hc1⟩
  obtain ⟨g, hg⟩ := Go.Deep.choose_lt get
  refine ⟨(List.range n).map g, by simp, ?_⟩
  intro i c hc
  have hi : i < n := by
    have := (List.getElem?_eq_some_iff.1 hc).1
    simpa using this
  simp only [List.getElem?_map, List.getElem?_range hi, Option.map_some, Option.some.injEq] at hc
  subst hc
  exact hg i hi

theorem rows_of {H : Type} {enc : TypeId × Value → H} {W : World} {fs : Array Field} {b off n : Nat} (hs : fs.size = 2) (h0 : ∀ f, fs[0]? = some f → f.type = 3) (h1 : ∀ f, fs[1]? = some f → f.type = 3)
    (h : ∀ i, i < n → ∃ (ra : Option Addr) (rn rcap : Nat), W.cell? ⟨b, off + i, none⟩ = some (.slice ra rn rcap) ∧ rn ≤ rcap ∧ rcap ≤ maxLen ∧ (rn = 0 ∨ ∃ g o, ra = some ⟨g, o, none⟩ ∧ g < W.heap.size ∧ StructsAt enc Tryd.prog W fs g o rn)) :
    ∃ rs : List (List (Int × Int)), rs.length = n ∧ RowsAt W b off rs := by
  have get : ∀ i, i < n → ∃ r : List (Int × Int), ∃ v, W.cell? ⟨b, off + i, none⟩ = some v ∧ AskRow W v r := by
    intro i hi
    obtain ⟨ra, rn, rcap, hc, hl, hm, hcase⟩ := h i hi
    by_cases hn : rn = 0
    · subst hn
      exact ⟨[], _, hc, ra, rcap, rfl, Nat.zero_le _, hm, fun hne => absurd rfl hne⟩
    · rcases hcase with e | ⟨g, o, rfl, hg, hst⟩
      · exact absurd e hn
      · obtain ⟨xs, rfl, hx⟩ := asks_of hst hs h0 h1
        exact ⟨xs, _, hc, _, rcap, rfl, hl, hm, fun _ => ⟨g, o, rfl, hx, hg⟩⟩
  obtain ⟨g, hg⟩ := Go.Deep.choose_lt get
  refine ⟨(List.range n).map g, by simp, ?_⟩
  intro i c hc
  have hi : i < n := by
    have := (List.getElem?_eq_some_iff.1 hc).1
    simpa using this
  simp only [List.getElem?_map, List.getElem?_range hi, Option.map_some, Option.some.injEq] at hc
  subst hc
  exact hg i hi

namespace AcctWhole
set_option maxRecDepth 100000 in
theorem lifted (os : Os) (started : os.Started) (H : Type) (enc : TypeId × Value → H) :
    ReturnsInHanded {} Tryd.checked os 4 .any (fun w args => (Rows.acctWholeSpec.pre enc Tryd.prog Tryd.f4 [] false w args ∧ laidMetH Tryd.prog laidOne w) ∧ sizedMet enc Tryd.prog Tryd.f4 (OpenSpec.ofChange Rows.acctWholeSpec) false w args)
      (Rows.acctWholeSpec.post enc Tryd.prog Tryd.f4 false true false false) := by
  refine returnsInHanded_of_change_and (C := Tryd.checked) (X := fun w _ => laidMetH Tryd.prog laidOne w) (fun _ _ _ hh h => h.of_heap hh) own started (by kernel_rfl) Tryd.func4
    (ChangeSpec.witness_at (enc := enc) (C := Tryd.checked) (os := os) (X := fun w _ => laidMetH Tryd.prog laidOne w) false (laidWorld os) #[.slice none 0 0, .slice none 0 0] 8 rfl (by kernel_rfl) (by kernel_rfl) (by kernel_rfl) (by kernel_rfl) (by kernel_rfl) (laidWorld_met os _)) ?_
  intro W base args ds gs before hval0 hW _ _ hL _
  have hval : ∀ (j : Nat) t v, Tryd.f4.params[j]? = some t → args[j]? = some v → Value.okWide Tryd.prog W .any base t v := hval0
  have hW' := hW
  obtain ⟨p, q, hA0, hV, rfl, hfz, hnd⟩ := hW
  have hA : DataW.TrodAll enc Tryd.prog W 0 (fun _ => true) true Tryd.f4.params.toList args.toList ds p := hA0
  rw [Tryd.params4] at hA hval
  obtain ⟨v0, vs0, d0, ds0, p0, q0, hargs, rfl, rfl, h0, r0⟩ := trodAll_cons hA
  obtain ⟨v1, vs1, d1, ds1, p1, q1, rfl, rfl, rfl, h1, r1⟩ := trodAll_cons r0
  obtain ⟨rfl, rfl, rfl⟩ := trodAll_nil r1
  obtain rfl : args = #[v0, v1] := by cases args; simp_all
  obtain ⟨rfl, rfl⟩ := trodVars_none hV
  have hg := laid_of_met hL
  have hm : maxLen = 9223372036854775807 := rfl
  obtain ⟨a, n, cap, rfl, hn, hcase⟩ := open_nums Tryd.underlying41 Tryd.underlying3 (by kernel_rfl) (hval 0 41 v0 rfl rfl) h0
  obtain ⟨a2, n2, cap2, rfl, hn2, hcase2⟩ := open_rows Tryd.underlying42 Tryd.underlying47 Tryd.underlying51 (by kernel_rfl) (by kernel_rfl) (by decide) (by kernel_rfl) (hval 1 42 v1 rfl rfl) h1
  have fin : ∀ e W', (e = Ending.returned (.bool true) ∧ Turn (fun _ => False) W W') → ∃ v, e = .returned v ∧ Rows.acctWholeSpec.post enc Tryd.prog Tryd.f4 false true false false W #[.slice a n cap, .slice a2 n2 cap2] v W' := by
    intro e W' ⟨he, hg⟩
    subst he
    exact ⟨_, rfl, law_post hW' rfl rfl rfl (by kernel_rfl) ((hg.mono (fun k hk h => h.elim)).below (Nat.le_refl _))⟩
  by_cases hbig : 20 < n ∨ 30 < n2
  · exact (acct_many a n cap a2 n2 cap2 W hbig (by omega) (by omega)).mono fin
  · obtain ⟨xs, rfl, hxs⟩ : ∃ xs : List Int, xs.length = n ∧ (xs ≠ [] → ∃ b off, a = some ⟨b, off, none⟩ ∧ NumsAt W b off xs ∧ b < W.heap.size) := by
      rcases hcase with rfl | ⟨b, off, rfl, hb, xs, rfl, hx⟩
      · exact ⟨[], rfl, fun h => absurd rfl h⟩
      · exact ⟨xs, rfl, fun _ => ⟨b, off, rfl, hx, hb⟩⟩
    obtain ⟨rs, rfl, hrs⟩ : ∃ rs : List (List (Int × Int)), rs.length = n2 ∧ (rs ≠ [] → ∃ b off, a2 = some ⟨b, off, none⟩ ∧ RowsAt W b off rs ∧ b < W.heap.size) := by
      rcases hcase2 with rfl | ⟨b, off, rfl, hb, hst⟩
      · exact ⟨[], rfl, fun h => absurd rfl h⟩
      · obtain ⟨rs, rfl, hr⟩ := rows_of rfl (by intro f hf; cases hf; rfl) (by intro f hf; cases hf; rfl) hst
        exact ⟨rs, rfl, fun _ => ⟨b, off, rfl, hr, hb⟩⟩
    by_cases h3 : xs.length ≤ 3
    · exact (acct_short a xs cap a2 rs cap2 W hg h3 (by omega) hxs hrs).mono fin
    · exact (acct_long a xs cap a2 rs cap2 W hg (by omega) (by omega) (by omega) hxs hrs).mono fin

theorem over : Rows.AcctWholeSaid :=
  OpenClaim.holds_of_wide 4 Tryd.f4 rfl rfl rfl rfl rfl rfl rfl ⟨rfl, rfl, rfl, rfl, rfl⟩ rfl rfl rfl rfl rfl (by kernel_rfl) Tryd.func4 (by kernel_rfl)
    (of_decide_eq_true (by kernel_rfl)) (by unfold Func.isWrapper; first | (rw [if_pos (by decide +kernel)]; kernel_rfl) | (rw [if_neg (by decide +kernel)]; exact ⟨rfl, rfl⟩))
    (fun os started H enc _ => lifted os started H enc)
end AcctWhole

theorem acctWhole_holds : Rows.AcctWholeCardSaid :=
  Claim7.holds_tied_plain_at .later [] [.handle] true Rows.acctWholeCard.stood.harness true
    AcctWhole.over (fun _ h => by cases h) (by kernel_rfl) (fun _ h => by cases h) acctWhole_row_tie rfl ⟨rfl, rfl⟩ (by kernel_rfl) rfl
    (fun f fn hf hfn => by
      obtain rfl : f = 4 := Option.some.inj ((show Tryd.prog.funcNamed "almshouse/almshousekeep.AcctWhole" = some 4 by kernel_rfl).symm.trans hf) |>.symm
      obtain rfl : fn = Tryd.f4 := (Option.some.inj (Tryd.func4.symm.trans hfn)).symm
      exact ⟨by kernel_rfl, fun j t ht => by
        rw [Tryd.params4] at ht
        have h3 : t = 41 ∨ t = 42 := by
          rcases j with _ | _ | j
          · exact .inl (by simpa using ht.symm)
          · exact .inr (by simpa using ht.symm)
          · simp at ht
        rcases h3 with rfl | rfl
        · exact (show Tryd.prog.wantsStandIn 41 = false by kernel_rfl)
        · exact (show Tryd.prog.wantsStandIn 42 = false by kernel_rfl)⟩)
    (by kernel_rfl)
#print axioms acctWhole_holds
end Go.Proofs.YtiohpmcedfbcgaaDoor
