/- The law's names: true, and both trees stay alike. Conditions: each theorem's own premises; the variable errors.errorType holds what is laid. -/
import Derived.Test.YtiohpmcedfbcgacGreatDoorTreePair
import Derived.Test.YtiohpmcedfbcgacGreatDoorTreeLaw
import Derived.Deep.RegionWith
import Derived.Deep.RegionHeld3
import Derived.Deep.DeepCutAuto
import Derived.Deep.CutBlock
import Derived.Outline
namespace Go.Proofs.YtiohpmcedfbcgacGreatDoor
open Go.RowKit
set_option linter.unusedVariables false
def NamesTo (W : World) (tb rb nm k : Nat) (U : Nat → Prop) (w : World) (e : Ending) (w' : World) : Prop := e = .returned (.bool true) ∧ ∃ T', TwoT W w' tb rb nm T' (k + 2) ∧ Turn U w w'
section
variable {W w : World} {tb rb nm k : Nat} {T : PT} {F G : Nat → Prop}
set_option maxHeartbeats 8000000 in
set_option maxRecDepth 100000 in
theorem lnames_is (h2 : TwoF W w tb rb nm T k F G) (h1 : 1 ≤ k) (hk : k ≤ 900) (hL : Laid W) (x0 x1 x2 : Int) (s t : ByteArray) (hs : s.size ≤ 250) (ht : t.size ≤ 100) :
    Calls Tryz.prog 33 #[.pointer (some ⟨tb, 0, none⟩), .pointer (some ⟨rb, 0, none⟩), .agg #[.int .i64 x0, .int .i64 x1, .int .i64 x2, .string s, .string t]] w (fun e w' => NamesTo W tb rb nm k (fun j => F j ∨ G j) w e w') := by
  have HL := hid hL
  obtain ⟨pb, hpb⟩ : ∃ pb, pb = w.heap.size := ⟨_, rfl⟩
  have hlt : ∀ j, F j ∨ G j → j < w.heap.size := fun j hj => hj.elim (h2.tree.foot_lt j) (h2.doc.foot_lt j)
  have T1 : Turn (fun _ => False) w (w.alloc (.cells #[.int .i64 x0, .int .i64 x1, .int .i64 x2, .string s, .string t] 60)) := (Turn.refl _ _).alloc _
  have c0 : (w.alloc (.cells #[.int .i64 x0, .int .i64 x1, .int .i64 x2, .string s, .string t] 60)).cell? ⟨pb, 0, none⟩ = some (.int .i64 x0) := by rw [hpb]; simp
  have c3 : (w.alloc (.cells #[.int .i64 x0, .int .i64 x1, .int .i64 x2, .string s, .string t] 60)).cell? ⟨pb, 3, none⟩ = some (.string s) := by rw [hpb]; simp
  have c4 : (w.alloc (.cells #[.int .i64 x0, .int .i64 x1, .int .i64 x2, .string s, .string t] 60)).cell? ⟨pb, 4, none⟩ = some (.string t) := by rw [hpb]; simp
  have H2 := hid (h2.still T1)
  have HPb : Hid (∀ j, F j ∨ G j → j ≠ pb) := hid (fun j hj => by have := hlt j hj; omega)
  have hs1 : s.size < 4294967281 := by omega
  have ht1 : t.size < 4294967281 := by omega
  have hs2 : s.size < 1000000 := by omega
  have ht2 : t.size < 1000000 := by omega
  have HN := hid (show s.size < 4294967281 ∧ t.size < 4294967281 ∧ s.size < 1000000 ∧ t.size < 1000000 from ⟨hs1, ht1, hs2, ht2⟩)
  have HK := hid (show 1 ≤ k ∧ k ≤ 900 from ⟨h1, hk⟩)
  have HT1 := hid T1
  clear h2 hlt T1 hs1 ht1 hs2 ht2 hL h1 hk hs ht
  go_enter Tryz.func33, Tryz.ntmps33
  go_upto_region 4 with fail
  rw [← hpb]
  generalize w.alloc (.cells #[.int .i64 x0, .int .i64 x1, .int .i64 x2, .string s, .string t] 60) = W2 at *
  clear hpb
  go_upto_block 0 with fail
  go_cut [7, 8, 9, 10] (fun n m er ee wx => ∃ (c z : Int) (T' : PT), n = .int .i64 c ∧ m = .int .i64 c ∧ er = TErr z ∧ ee = .int .i64 z ∧ Hid (TwoT W wx tb rb nm T' (k + 2)) ∧ Hid (Turn (fun j => F j ∨ G j) W2 wx))
  case first =>
    --<<
    by_cases o0 : x0 = 0
    · subst o0
      as_aux_lemma =>
        have HO := hid (H2.out.find s HN.out.1)
        clear c0 c4
        go_wp2_with fail
        refine HO.out.mono ?_
        rintro e w6 ⟨rfl, t6, hd⟩
        have HD := hid hd
        have HU6 : Hid (Turn (fun j => F j ∨ G j) W2 w6) := hid (t6.mono (fun _ _ e => .inl e))
        have k3 := (t6.cell (a := ⟨pb, 3, none⟩) (lt_of_cell c3) (fun e => HPb.out pb (.inl e) rfl)).trans c3
        clear hd t6 c3 HO
        go_wp2_with fail
        refine (HD.out _ (Turn.refl _ _)).mono ?_
        rintro e w7 ⟨rfl, t7, hT⟩
        have HU := hid (HU6.out.trans (t7.mono (fun _ _ e => .inr e)))
        have HT := hid (hT.mono (k' := k + 2) (by omega))
        clear hT t7
        go_wp2_with fail
        go_meet
        exact ⟨_, _, _, rfl, rfl, rfl, rfl, HT, HU⟩
    have o0' : (x0 == 0) = false := beq_eq_false_iff_ne.2 o0
    by_cases o1 : x0 = 1
    · subst o1
      as_aux_lemma =>
        have HO := hid (H2.out.mkdir HK.out.1 s HN.out.1)
        clear c0 c4
        go_wp2_with fail
        refine HO.out.mono ?_
        rintro e w6 ⟨rfl, t6, hd⟩
        have HD := hid hd
        have HU6 : Hid (Turn (fun j => F j ∨ G j) W2 w6) := hid (t6.mono (fun _ _ e => .inl e))
        have k3 := (t6.cell (a := ⟨pb, 3, none⟩) (lt_of_cell c3) (fun e => HPb.out pb (.inl e) rfl)).trans c3
        clear hd t6 c3 HO
        go_wp2_with fail
        refine (HD.out _ (Turn.refl _ _)).mono ?_
        rintro e w7 ⟨rfl, t7, hT⟩
        have HU := hid (HU6.out.trans (t7.mono (fun _ _ e => .inr e)))
        have HT := hid (hT.mono (k' := k + 2) (by omega))
        clear hT t7
        go_wp2_with fail
        go_meet
        exact ⟨_, _, _, rfl, rfl, rfl, rfl, HT, HU⟩
    have o1' : (x0 == 1) = false := beq_eq_false_iff_ne.2 o1
    by_cases o2 : x0 = 2
    · subst o2
      as_aux_lemma =>
        have HO := hid (H2.out.create HK.out.1 s HN.out.1)
        clear c0 c4
        go_wp2_with fail
        refine HO.out.mono ?_
        rintro e w6 ⟨rfl, t6, hd⟩
        have HD := hid hd
        have HU6 : Hid (Turn (fun j => F j ∨ G j) W2 w6) := hid (t6.mono (fun _ _ e => .inl e))
        have k3 := (t6.cell (a := ⟨pb, 3, none⟩) (lt_of_cell c3) (fun e => HPb.out pb (.inl e) rfl)).trans c3
        clear hd t6 c3 HO
        go_wp2_with fail
        refine (HD.out _ (Turn.refl _ _)).mono ?_
        rintro e w7 ⟨rfl, t7, hT⟩
        have HU := hid (HU6.out.trans (t7.mono (fun _ _ e => .inr e)))
        have HT := hid (hT.mono (k' := k + 2) (by omega))
        clear hT t7
        go_wp2_with fail
        go_meet
        exact ⟨_, _, _, rfl, rfl, rfl, rfl, HT, HU⟩
    have o2' : (x0 == 2) = false := beq_eq_false_iff_ne.2 o2
    by_cases o3 : x0 = 3
    · subst o3
      as_aux_lemma =>
        have HO := hid ((H2.out.still (Turn.refl (fun _ => False) W2).drew).link HK.out.2 s t HN.out.1 HN.out.2.1)
        have k3 := ((Turn.refl (fun _ => False) W2).drew.cell (a := ⟨pb, 3, none⟩) (lt_of_cell c3) id).trans c3
        have k4 := ((Turn.refl (fun _ => False) W2).drew.cell (a := ⟨pb, 4, none⟩) (lt_of_cell c4) id).trans c4
        clear c0
        go_wp2_with fail
        go_region_held3 (fun w' => w'.cell? ⟨pb, 3, none⟩ = some (.string s) ∧ w'.cell? ⟨pb, 4, none⟩ = some (.string t))
          (first | exact ⟨k3, k4⟩ | exact ⟨k36, k46⟩ | exact ⟨k37, k47⟩ | go_keep)
          (first | (go_at_call 37; refine HO.out.mono ?_; rintro e w6 ⟨rfl, t6, hd⟩; have HD := hid hd; have HU6 : Hid (Turn (fun j => F j ∨ G j) W2 w6) := hid (((Turn.refl (fun j => F j ∨ G j) W2).drew).trans (t6.mono (fun _ _ e => .inl e))); have k36 := (t6.cell (a := ⟨pb, 3, none⟩) (lt_of_cell k3) (fun e => HPb.out pb (.inl e) rfl)).trans k3; have k46 := (t6.cell (a := ⟨pb, 4, none⟩) (lt_of_cell k4) (fun e => HPb.out pb (.inl e) rfl)).trans k4; clear t6 hd) | (go_at_call 100; refine (HD.out _ (Turn.refl _ _)).mono ?_; rintro e w7 ⟨rfl, t7, hT⟩; have HT := hid hT; have HU := hid (HU6.out.trans (t7.mono (fun _ _ e => .inr e))); have k37 := (t7.cell (a := ⟨pb, 3, none⟩) (lt_of_cell k36) (fun e => HPb.out pb (.inr e) rfl)).trans k36; have k47 := (t7.cell (a := ⟨pb, 4, none⟩) (lt_of_cell k46) (fun e => HPb.out pb (.inr e) rfl)).trans k46; clear t7 hT))
        all_goals go_wp2_with fail
        all_goals go_meet
        all_goals exact ⟨0, _, _, rfl, rfl, rfl, rfl, HT, HU⟩
    have o3' : (x0 == 3) = false := beq_eq_false_iff_ne.2 o3
    by_cases o4 : x0 = 4
    · subst o4
      as_aux_lemma =>
        have HO := hid ((H2.out.still (Turn.refl (fun _ => False) W2).drew).unlink HK.out.2 s HN.out.1)
        have k3 := ((Turn.refl (fun _ => False) W2).drew.cell (a := ⟨pb, 3, none⟩) (lt_of_cell c3) id).trans c3
        clear c0
        go_wp2_with fail
        go_region_held3 (fun w' => w'.cell? ⟨pb, 3, none⟩ = some (.string s))
          (first | exact k3 | exact k36 | exact k37 | go_keep)
          (first | (go_at_call 39; refine HO.out.mono ?_; rintro e w6 ⟨rfl, t6, hd⟩; have HD := hid hd; have HU6 : Hid (Turn (fun j => F j ∨ G j) W2 w6) := hid (((Turn.refl (fun j => F j ∨ G j) W2).drew).trans (t6.mono (fun _ _ e => .inl e))); have k36 := (t6.cell (a := ⟨pb, 3, none⟩) (lt_of_cell k3) (fun e => HPb.out pb (.inl e) rfl)).trans k3; clear t6 hd) | (go_at_call 101; refine (HD.out _ (Turn.refl _ _)).mono ?_; rintro e w7 ⟨rfl, t7, hT⟩; have HT := hid hT; have HU := hid (HU6.out.trans (t7.mono (fun _ _ e => .inr e))); have k37 := (t7.cell (a := ⟨pb, 3, none⟩) (lt_of_cell k36) (fun e => HPb.out pb (.inr e) rfl)).trans k36; clear t7 hT))
        all_goals go_wp2_with fail
        all_goals go_meet
        all_goals exact ⟨0, _, _, rfl, rfl, rfl, rfl, HT, HU⟩
    have o4' : (x0 == 4) = false := beq_eq_false_iff_ne.2 o4
    by_cases o5 : x0 = 5
    · subst o5
      as_aux_lemma =>
        have HO := hid ((H2.out.still (Turn.refl (fun _ => False) W2).drew).rename s t HN.out.2.2.1 HN.out.2.2.2)
        have k3 := ((Turn.refl (fun _ => False) W2).drew.cell (a := ⟨pb, 3, none⟩) (lt_of_cell c3) id).trans c3
        have k4 := ((Turn.refl (fun _ => False) W2).drew.cell (a := ⟨pb, 4, none⟩) (lt_of_cell c4) id).trans c4
        clear c0
        go_wp2_with fail
        go_region_held3 (fun w' => w'.cell? ⟨pb, 3, none⟩ = some (.string s) ∧ w'.cell? ⟨pb, 4, none⟩ = some (.string t))
          (first | exact ⟨k3, k4⟩ | exact ⟨k36, k46⟩ | exact ⟨k37, k47⟩ | go_keep)
          (first | (go_at_call 102; refine HO.out.mono ?_; rintro e w6 ⟨rfl, t6, hd⟩; have HD := hid hd; have HU6 : Hid (Turn (fun j => F j ∨ G j) W2 w6) := hid (((Turn.refl (fun j => F j ∨ G j) W2).drew).trans (t6.mono (fun _ _ e => .inl e))); have k36 := (t6.cell (a := ⟨pb, 3, none⟩) (lt_of_cell k3) (fun e => HPb.out pb (.inl e) rfl)).trans k3; have k46 := (t6.cell (a := ⟨pb, 4, none⟩) (lt_of_cell k4) (fun e => HPb.out pb (.inl e) rfl)).trans k4; clear t6 hd) | (go_at_call 103; refine (HD.out _ (Turn.refl _ _)).mono ?_; rintro e w7 ⟨rfl, t7, hT⟩; have HT := hid hT; have HU := hid (HU6.out.trans (t7.mono (fun _ _ e => .inr e))); have k37 := (t7.cell (a := ⟨pb, 3, none⟩) (lt_of_cell k36) (fun e => HPb.out pb (.inr e) rfl)).trans k36; have k47 := (t7.cell (a := ⟨pb, 4, none⟩) (lt_of_cell k46) (fun e => HPb.out pb (.inr e) rfl)).trans k46; clear t7 hT))
        all_goals go_wp2_with fail
        all_goals go_meet
        all_goals exact ⟨0, _, _, rfl, rfl, rfl, rfl, HT, HU⟩
    have o5' : (x0 == 5) = false := beq_eq_false_iff_ne.2 o5
    by_cases o6 : x0 = 6
    · subst o6
      as_aux_lemma =>
        have HLn : Hid (∀ n p, mget T n = some p → p.ds.length ≤ 1000000) := hid (fun n p hp => by have := (H2.out.b HK.out.2 n p hp).2.1; omega)
        have HO := hid (list_is H2.out.tree s HN.out.1 HLn.out)
        have HRd : Hid (∀ w', Turn (fun _ => False) W2 w' → Calls Tryz.prog 104 #[.pointer (some ⟨rb, 0, none⟩), .string s] w' (RListIs T s w')) := hid (fun w' tt => by
          obtain ⟨nm', D, hin, _⟩ := H2.out.doc.turned tt (fun _ _ => id)
          exact rlist_is hin H2.out.tree.ok s HN.out.1 HLn.out)
        clear c0 c4
        go_wp2_with fail
        refine HO.out.mono ?_
        unfold ListIs
        rintro e w6 ⟨v, rfl, hR, t6, ho⟩
        obtain ⟨a, cap, rfl, hA, _⟩ := RowV.strs hR
        have HA := hid hA
        have HT6 := hid t6
        have k3 := (t6.cell (a := ⟨pb, 3, none⟩) (lt_of_cell c3) id).trans c3
        clear hR t6 c3 HO hA ho
        go_wp2_with fail
        refine (HRd.out _ HT6.out).mono ?_
        unfold RListIs
        rintro e w7 ⟨a2, cap2, rfl, hA2, t7⟩
        have hll : (listT T s).length ≤ 1000000 := by
          unfold listT
          split
          · rw [sortedNs_length]
            cases hq : mget T (findT T s).2 with
            | none => exact Nat.zero_le _
            | some q => exact HLn.out _ q hq
          · exact Nat.zero_le _
        have HSm := hid (sameTexts_same (listT T s) a a2 cap cap2 hll (HA.out.turned t7 (fun _ _ => id)) hA2)
        have HT7 := hid (HT6.out.trans t7)
        obtain ⟨ll, hll2⟩ : ∃ ll, (listT T s).length = ll := ⟨_, rfl⟩
        rw [hll2] at HSm ⊢
        clear hll hA2 t7 hll2 HA
        go_wp2_with fail
        refine HSm.out.mono ?_
        rintro e w8 ⟨rfl, t8⟩
        have HT8 := hid ((H2.out.still (HT7.out.trans t8)).shut.mono (k' := k + 2) (by omega))
        have HU := hid (((HT7.out.trans t8).mono (fun _ _ h => h.elim) : Turn (fun j => F j ∨ G j) W2 w8))
        clear t8
        go_wp2_with fail
        go_meet
        exact ⟨0, _, _, rfl, rfl, rfl, rfl, HT8, HU⟩
    have o6' : (x0 == 6) = false := beq_eq_false_iff_ne.2 o6
    as_aux_lemma =>
      have HT8 := hid (H2.out.shut.mono (k' := k + 2) (by omega))
      clear o0 o1 o2 o3 o4 o5 o6 c3 c4
      go_wp2_with fail
      go_meet
      exact ⟨0, 0, _, rfl, rfl, rfl, rfl, HT8, hid (Turn.refl _ _)⟩
    -->>
  case rest =>
    obtain ⟨c, z, T', rfl, rfl, rfl, rfl, hT, hU⟩ := hcut
    have HB := hid (bareT z wc (HL.out.turned0 hT.out.turn))
    have e4 : (c == c) = true := by simp
    clear H2 HPb c0 c3 c4
    go_wp2_with fail
    refine HB.out.mono ?_
    rintro e w6 ⟨rfl, t6⟩
    have HT6 := hid (hT.out.still t6)
    have HU6 := hid ((HT1.out.mono (fun _ _ h => h.elim)).trans (hU.out.trans (t6.mono (fun _ _ h => h.elim))))
    clear t6
    go_wp2_with fail
    go_ret
    exact ⟨rfl, _, HT6.out, HU6.out⟩
end
end Go.Proofs.YtiohpmcedfbcgacGreatDoor
