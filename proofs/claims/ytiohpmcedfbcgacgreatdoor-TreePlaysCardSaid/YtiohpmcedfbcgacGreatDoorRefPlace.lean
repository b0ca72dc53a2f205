/- The document's tree: place. Conditions: each theorem's own premises. -/
import Derived.Test.YtiohpmcedfbcgacGreatDoorRefTree
import Derived.Test.YtiohpmcedfbcgacGreatDoorTree
namespace Go.Proofs.YtiohpmcedfbcgacGreatDoor
open Go.RowKit
set_option linter.unusedVariables false
section
variable {w w' : World} {rb nm : Nat} {T : PT} {D : Int → Nat} {p : PN} {n : Int}
def RPlaceIs (T : PT) (D : Int → Nat) (path : ByteArray) (w : World) (e : Ending) (w' : World) : Prop :=
  (((placeT T path).1 ≠ 0 ∧ e = .returned (.tuple #[.map none, .string ByteArray.empty, .int .i64 (placeT T path).1])) ∨
    ∃ d p s, placeT T path = (0, d, s) ∧ mget T d = some p ∧ p.isDir = true ∧ e = .returned (.tuple #[.map (some (D d)), .string s, .int .i64 0])) ∧ Turn (fun _ => False) w w'
set_option maxHeartbeats 2000000 in
set_option maxRecDepth 100000 in
theorem rplace_is (h : RTreeIn w rb nm T D) (hok : TOk T) (path : ByteArray) (hs : path.size < 4294967281) :
    Calls Tryz.prog 214 #[.pointer (some ⟨rb, 0, none⟩), .string path] w (RPlaceIs T D path w) := by
  have H := hid h
  have HOk := hid hok
  have HP := hid (names_is path hs w)
  have f0 := @rfld0
  have f1 := @rfld1
  clear h hok
  go_enter Tryz.func214, Tryz.ntmps214
  go_wp2_with fail
  refine HP.out.mono ?_
  rintro e w1 ⟨⟨hn, rfl⟩ | ⟨l, a, cap, hn, rfl, hl, hcap⟩, t1⟩
  · have hp := placeT_none (T := T) hn
    have HPl := hid hp
    have HT := hid t1
    clear t1 hn hp
    go_wp2_with fail
    go_returns
    unfold RPlaceIs
    rw [HPl.out]
    exact ⟨.inl ⟨by simp, rfl⟩, HT.out⟩
  · have HT := hid t1
    by_cases h0 : l = []
    · subst h0
      have hp := placeT_root (T := T) hn
      have HPl := hid hp
      clear t1 hn hl hp
      go_wp2_with fail
      go_returns
      unfold RPlaceIs
      rw [HPl.out]
      exact ⟨.inl ⟨by simp, rfl⟩, HT.out⟩
    · have hlen := namesOf_length hn
      have h1 : 1 ≤ l.length := List.length_pos_iff.2 h0
      have hcp := hcap h0
      have hin := H.out.turned t1 (fun _ _ => id)
      have HIn := hid hin
      have htk : l.take (l.length - 1) = l.dropLast := List.dropLast_eq_take.symm
      have hl2 := hl.take (l.length - 1)
      rw [htk] at hl2
      obtain ⟨R, hR⟩ : ∃ R, walkT T 0 l.dropLast = R := ⟨_, rfl⟩
      have HR := hid hR
      have HW : Hid (∀ cap, Calls Tryz.prog 213 #[.pointer (some ⟨rb, 0, none⟩), .slice a (l.length - 1 : Nat) cap] w1 fun e w' => e = .returned (.tuple #[.int .i64 R.2, .int .i64 R.1]) ∧ w' = w1) := hid (fun cap => by
        have h3 := lead_is hin HOk.out cap hl2 (by rw [List.length_dropLast]; omega)
        rw [hR, List.length_dropLast] at h3
        exact h3)
      obtain ⟨g, off, rfl, _, hc0⟩ := hl.resolve_left h0
      have hlast : ∃ s, l[l.length - 1]? = some s ∧ l.getLastD ByteArray.empty = s := ⟨_, List.getElem?_eq_getElem (by omega), by rw [List.getLastD_eq_getLast?, List.getLast?_eq_getElem?, List.getElem?_eq_getElem (by omega)]; rfl⟩
      obtain ⟨s, hs1, hs2⟩ := hlast
      have hc := hc0 _ s hs1
      have h0' : ((l.length : Int) == 0) = false := beq_eq_false_iff_ne.2 (by omega)
      have HN := hid hn
      have HS2 := hid hs2
      obtain ⟨k, hk⟩ : ∃ k, l.length - 1 = k := ⟨_, rfl⟩
      have hk1 : l.length = k + 1 := by omega
      have hsub : wrap64 ((l.length : Int) - 1) = k := by rw [IntWalk.wrap64_in _ (by omega)]; omega
      rw [hk] at HW hc
      have h00 := hid h0
      clear hl hl2 hc0 hs1 hs2 htk hR hin t1 hn h0 hk hcap
      go_wp2_with fail
      refine (HW.out cap).mono ?_
      rintro e w2 ⟨rfl, hw⟩; subst w2
      obtain ⟨z, m⟩ := R
      by_cases hz : z = 0
      · subst hz
        have hwk := HR.out
        obtain ⟨p0, hp0, _⟩ := HOk.out.root
        obtain ⟨q, hq⟩ := walkT_there HOk.out _ 0 p0 hp0 (by rw [hwk])
        rw [hwk] at hq
        simp only at hq
        have hh := HIn.out.hdr
        have lk := HIn.out.look hq
        have HQ := hid hq
        cases hd : q.isDir with
        | false =>
          rw [hd] at lk
          simp only [Bool.false_eq_true, if_false] at lk
          have hpl := placeT_file HN.out h00.out hwk (by unfold isDirT; rw [hq]; exact hd)
          have HPl := hid hpl
          clear hq hwk hp0 hpl hd
          go_wp2_with fail
          go_returns
          unfold RPlaceIs
          rw [HPl.out]
          exact ⟨.inl ⟨by simp, rfl⟩, HT.out⟩
        | true =>
          have lk2 := (HIn.out.turned (Turn.refl (fun _ => False) w1).drew (fun _ _ => id)).look hq
          rw [hd] at lk lk2
          simp only [if_true] at lk lk2
          have hpl := placeT_dir HN.out h00.out hwk (by unfold isDirT; rw [hq]; exact hd)
          rw [HS2.out] at hpl
          have HPl := hid hpl
          have HD := hid hd
          clear hq hwk hp0 hpl hd
          go_wp2_with fail
          have hq1 : (k : Int) < ((k + 1 : Nat) : Int) := by omega
          have hq2 : IntKind.i64.wrap (((k + 1 : Nat) : Int) - 1) = (k : Int) := by rw [IntWalk.i64_in _ (by omega)]; omega
          generalize hkk : k + 1 = N at *
          have hkn : k < N := by omega
          have hk0 : ¬ (k : Int) < 0 := by omega
          clear hsub h1 hcp hlen hkk
          go_region
          all_goals go_wp2_with fail
          all_goals go_returns
          all_goals exact ⟨.inr ⟨m, q, s, HPl.out, HQ.out, HD.out, rfl⟩, HT.out.drew⟩
      · have hzb : (z == 0) = false := by simpa using hz
        have hzn : (z != 0) = true := by simpa using hz
        have hpl := placeT_err HN.out h00.out HR.out hz
        have HPl := hid hpl
        have HZ := hid hz
        clear hpl hz
        go_wp2_with fail
        go_returns
        unfold RPlaceIs
        rw [HPl.out]
        exact ⟨.inl ⟨HZ.out, rfl⟩, HT.out⟩
end
end Go.Proofs.YtiohpmcedfbcgacGreatDoor
