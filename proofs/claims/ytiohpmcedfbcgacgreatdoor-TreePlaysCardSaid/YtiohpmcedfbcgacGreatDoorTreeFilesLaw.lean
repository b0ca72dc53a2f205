/- The law's files: true, and both trees stay alike. Conditions: each theorem's own premises; the variable errors.errorType holds what is laid. -/
import Derived.Test.YtiohpmcedfbcgacGreatDoorTreePair
import Derived.Deep.RegionWith
import Derived.Deep.RegionHeld3
import Derived.Deep.DeepCutAuto
import Derived.Deep.CutBlock
import Derived.Outline
namespace Go.Proofs.YtiohpmcedfbcgacGreatDoor
open Go.RowKit
set_option linter.unusedVariables false
def LFilesTo (W : World) (tb rb nm k : Nat) (U : Nat → Prop) (w : World) (e : Ending) (w' : World) : Prop := e = .returned (.bool true) ∧ ∃ T', TwoT W w' tb rb nm T' (k + 2) ∧ Turn U w w'
section
variable {W w : World} {tb rb nm k : Nat} {T : PT} {F G : Nat → Prop}
set_option maxHeartbeats 8000000 in
set_option maxRecDepth 100000 in
theorem lfiles_is (h2 : TwoF W w tb rb nm T k F G) (hk : k ≤ 900) (hL : Laid W) (x0 x1 x2 : Int) (s t : ByteArray) (hs : s.size ≤ 250) :
    Calls Tryz.prog 34 #[.pointer (some ⟨tb, 0, none⟩), .pointer (some ⟨rb, 0, none⟩), .agg #[.int .i64 x0, .int .i64 x1, .int .i64 x2, .string s, .string t]] w (fun e w' => LFilesTo W tb rb nm k (fun j => F j ∨ G j) w e w') := by
  have HL := hid hL
  obtain ⟨pb, hpb⟩ : ∃ pb, pb = w.heap.size := ⟨_, rfl⟩
  have hlt : ∀ j, F j ∨ G j → j < w.heap.size := fun j hj => hj.elim (h2.tree.foot_lt j) (h2.doc.foot_lt j)
  have T1 : Turn (fun _ => False) w (w.alloc (.cells #[.int .i64 x0, .int .i64 x1, .int .i64 x2, .string s, .string t] 60)) := (Turn.refl _ _).alloc _
  have c0 : (w.alloc (.cells #[.int .i64 x0, .int .i64 x1, .int .i64 x2, .string s, .string t] 60)).cell? ⟨pb, 0, none⟩ = some (.int .i64 x0) := by rw [hpb]; simp
  have c1 : (w.alloc (.cells #[.int .i64 x0, .int .i64 x1, .int .i64 x2, .string s, .string t] 60)).cell? ⟨pb, 1, none⟩ = some (.int .i64 x1) := by rw [hpb]; simp
  have c2 : (w.alloc (.cells #[.int .i64 x0, .int .i64 x1, .int .i64 x2, .string s, .string t] 60)).cell? ⟨pb, 2, none⟩ = some (.int .i64 x2) := by rw [hpb]; simp
  have c3 : (w.alloc (.cells #[.int .i64 x0, .int .i64 x1, .int .i64 x2, .string s, .string t] 60)).cell? ⟨pb, 3, none⟩ = some (.string s) := by rw [hpb]; simp
  have H2 := hid (h2.still T1)
  have HPb : Hid (∀ j, F j ∨ G j → j ≠ pb) := hid (fun j hj => by have := hlt j hj; omega)
  have HN := hid (show s.size ≤ 4294967281 by omega)
  have HK := hid hk
  have HT1 := hid T1
  clear h2 hlt T1 hL hk
  go_enter Tryz.func34, Tryz.ntmps34
  go_upto_region 3 with fail
  rw [← hpb]
  generalize w.alloc (.cells #[.int .i64 x0, .int .i64 x1, .int .i64 x2, .string s, .string t] 60) = W2 at *
  clear hpb
  go_upto_block 0 with fail
  go_cut [7, 8] (fun er ee wx => ∃ (z : Int) (T' : PT), er = TErr z ∧ ee = .int .i64 z ∧ Hid (TwoT W wx tb rb nm T' (k + 2)) ∧ Hid (wx.cell? ⟨pb, 1, none⟩ = some (.int .i64 x1)) ∧ Hid (Turn (fun j => F j ∨ G j) W2 wx))
  case first =>
    --<<
    by_cases o7 : x0 = 7
    · subst o7
      as_aux_lemma =>
        have HO := hid ((H2.out.still (Turn.refl (fun _ => False) W2).drew).hold HK.out x1)
        have k1 := ((Turn.refl (fun _ => False) W2).drew.cell (a := ⟨pb, 1, none⟩) (lt_of_cell c1) id).trans c1
        clear c0
        go_wp2_with fail
        go_region_held3 (fun w' => w'.cell? ⟨pb, 1, none⟩ = some (.int .i64 x1))
          (first | exact k1 | exact k16 | exact k17 | go_keep)
          (first | (go_at_call 106; refine HO.out.mono ?_; rintro e w6 ⟨rfl, t6, hd⟩; have HD := hid hd; have HU6 : Hid (Turn (fun j => F j ∨ G j) W2 w6) := hid (((Turn.refl (fun j => F j ∨ G j) W2).drew).trans (t6.mono (fun _ _ e => .inl e))); have k16 := (t6.cell (a := ⟨pb, 1, none⟩) (lt_of_cell k1) (fun e => HPb.out pb (.inl e) rfl)).trans k1; clear t6 hd) | (go_at_call 107; refine (HD.out _ (Turn.refl _ _)).mono ?_; rintro e w7 ⟨rfl, t7, hT⟩; have HT := hid hT; have HU := hid (HU6.out.trans (t7.mono (fun _ _ e => .inr e))); have k17 := (t7.cell (a := ⟨pb, 1, none⟩) (lt_of_cell k16) (fun e => HPb.out pb (.inr e) rfl)).trans k16; have HC1 := hid k17; clear t7 hT))
        all_goals go_wp2_with fail
        all_goals go_meet
        all_goals exact ⟨_, _, rfl, rfl, HT, HC1, HU⟩
    have o7' : (x0 == 7) = false := beq_eq_false_iff_ne.2 o7
    by_cases o8 : x0 = 8
    · subst o8
      as_aux_lemma =>
        have HO := hid ((H2.out.still (Turn.refl (fun _ => False) W2).drew).drop HK.out x1)
        have k1 := ((Turn.refl (fun _ => False) W2).drew.cell (a := ⟨pb, 1, none⟩) (lt_of_cell c1) id).trans c1
        clear c0
        go_wp2_with fail
        go_region_held3 (fun w' => w'.cell? ⟨pb, 1, none⟩ = some (.int .i64 x1))
          (first | exact k1 | exact k16 | exact k17 | go_keep)
          (first | (go_at_call 108; refine HO.out.mono ?_; rintro e w6 ⟨rfl, t6, hd⟩; have HD := hid hd; have HU6 : Hid (Turn (fun j => F j ∨ G j) W2 w6) := hid (((Turn.refl (fun j => F j ∨ G j) W2).drew).trans (t6.mono (fun _ _ e => .inl e))); have k16 := (t6.cell (a := ⟨pb, 1, none⟩) (lt_of_cell k1) (fun e => HPb.out pb (.inl e) rfl)).trans k1; clear t6 hd) | (go_at_call 107; refine (HD.out _ (Turn.refl _ _)).mono ?_; rintro e w7 ⟨rfl, t7, hT⟩; have HT := hid hT; have HU := hid (HU6.out.trans (t7.mono (fun _ _ e => .inr e))); have k17 := (t7.cell (a := ⟨pb, 1, none⟩) (lt_of_cell k16) (fun e => HPb.out pb (.inr e) rfl)).trans k16; have HC1 := hid k17; clear t7 hT))
        all_goals go_wp2_with fail
        all_goals go_meet
        all_goals exact ⟨_, _, rfl, rfl, HT, HC1, HU⟩
    have o8' : (x0 == 8) = false := beq_eq_false_iff_ne.2 o8
    by_cases o9 : x0 = 9
    · subst o9
      as_aux_lemma =>
        have HO := hid ((H2.out.still (Turn.refl (fun _ => False) W2).drew).write x1 x2 s HN.out)
        have k1 := ((Turn.refl (fun _ => False) W2).drew.cell (a := ⟨pb, 1, none⟩) (lt_of_cell c1) id).trans c1
        have k2 := ((Turn.refl (fun _ => False) W2).drew.cell (a := ⟨pb, 2, none⟩) (lt_of_cell c2) id).trans c2
        have k3 := ((Turn.refl (fun _ => False) W2).drew.cell (a := ⟨pb, 3, none⟩) (lt_of_cell c3) id).trans c3
        clear c0
        go_wp2_with fail
        go_region_held3 (fun w' => w'.cell? ⟨pb, 1, none⟩ = some (.int .i64 x1) ∧ w'.cell? ⟨pb, 2, none⟩ = some (.int .i64 x2) ∧ w'.cell? ⟨pb, 3, none⟩ = some (.string s))
          (first | exact ⟨k1, k2, k3⟩ | exact ⟨k16, k26, k36⟩ | exact ⟨k17, k27, k37⟩ | go_keep)
          (first | (go_at_call 28; refine HO.out.mono ?_; rintro e w6 ⟨rfl, t6, hd⟩; have HD := hid hd; have HU6 : Hid (Turn (fun j => F j ∨ G j) W2 w6) := hid (((Turn.refl (fun j => F j ∨ G j) W2).drew).trans (t6.mono (fun _ _ e => .inl e))); have k16 := (t6.cell (a := ⟨pb, 1, none⟩) (lt_of_cell k1) (fun e => HPb.out pb (.inl e) rfl)).trans k1; have k26 := (t6.cell (a := ⟨pb, 2, none⟩) (lt_of_cell k2) (fun e => HPb.out pb (.inl e) rfl)).trans k2; have k36 := (t6.cell (a := ⟨pb, 3, none⟩) (lt_of_cell k3) (fun e => HPb.out pb (.inl e) rfl)).trans k3; clear t6 hd) | (go_at_call 109; refine (HD.out _ (Turn.refl _ _)).mono ?_; rintro e w7 ⟨rfl, t7, hT⟩; have HT := hid hT; have HU := hid (HU6.out.trans (t7.mono (fun _ _ e => .inr e))); have k17 := (t7.cell (a := ⟨pb, 1, none⟩) (lt_of_cell k16) (fun e => HPb.out pb (.inr e) rfl)).trans k16; have k27 := (t7.cell (a := ⟨pb, 2, none⟩) (lt_of_cell k26) (fun e => HPb.out pb (.inr e) rfl)).trans k26; have k37 := (t7.cell (a := ⟨pb, 3, none⟩) (lt_of_cell k36) (fun e => HPb.out pb (.inr e) rfl)).trans k36; have HC1 := hid k17; clear t7 hT))
        all_goals go_wp2_with fail
        all_goals go_meet
        all_goals exact ⟨_, _, rfl, rfl, HT, HC1, HU⟩
    have o9' : (x0 == 9) = false := beq_eq_false_iff_ne.2 o9
    by_cases o10 : x0 = 10
    · subst o10
      as_aux_lemma =>
        have HO := hid (H2.out.read x1 x2 s.size)
        obtain ⟨rd, hrd⟩ : ∃ rd, readT T x1 x2 s.size = rd := ⟨_, rfl⟩
        rw [hrd] at HO
        clear c0 hrd
        go_wp2_with fail
        refine HO.out.mono ?_
        rintro e w6 ⟨rfl, t6, hd⟩
        have HD := hid hd
        have HU6 : Hid (Turn (fun j => F j ∨ G j) W2 w6) := hid (t6.mono (fun _ _ e => .inl e))
        have k1 := (t6.cell (a := ⟨pb, 1, none⟩) (lt_of_cell c1) (fun e => HPb.out pb (.inl e) rfl)).trans c1
        have k2 := (t6.cell (a := ⟨pb, 2, none⟩) (lt_of_cell c2) (fun e => HPb.out pb (.inl e) rfl)).trans c2
        have k3 := (t6.cell (a := ⟨pb, 3, none⟩) (lt_of_cell c3) (fun e => HPb.out pb (.inl e) rfl)).trans c3
        clear hd t6 c1 c2 c3 HO
        go_wp2_with fail
        refine (HD.out _ (Turn.refl _ _)).mono ?_
        rintro e w7 ⟨rfl, t7, hT⟩
        have HU := hid (HU6.out.trans (t7.mono (fun _ _ e => .inr e)))
        have HT := hid (hT.mono (k' := k + 2) (by omega))
        have HC1 := hid ((t7.cell (a := ⟨pb, 1, none⟩) (lt_of_cell k1) (fun e => HPb.out pb (.inr e) rfl)).trans k1)
        clear hT t7 k1 k2 k3
        go_wp2_with fail
        go_meet
        exact ⟨_, _, rfl, rfl, HT, HC1, HU⟩
    have o10' : (x0 == 10) = false := beq_eq_false_iff_ne.2 o10
    by_cases o11 : x0 = 11
    · subst o11
      as_aux_lemma =>
        have HO := hid ((H2.out.still (Turn.refl (fun _ => False) W2).drew).cut x1 x2)
        have k1 := ((Turn.refl (fun _ => False) W2).drew.cell (a := ⟨pb, 1, none⟩) (lt_of_cell c1) id).trans c1
        have k2 := ((Turn.refl (fun _ => False) W2).drew.cell (a := ⟨pb, 2, none⟩) (lt_of_cell c2) id).trans c2
        clear c0
        go_wp2_with fail
        go_region_held3 (fun w' => w'.cell? ⟨pb, 1, none⟩ = some (.int .i64 x1) ∧ w'.cell? ⟨pb, 2, none⟩ = some (.int .i64 x2))
          (first | exact ⟨k1, k2⟩ | exact ⟨k16, k26⟩ | exact ⟨k17, k27⟩ | go_keep)
          (first | (go_at_call 30; refine HO.out.mono ?_; rintro e w6 ⟨rfl, t6, hd⟩; have HD := hid hd; have HU6 : Hid (Turn (fun j => F j ∨ G j) W2 w6) := hid (((Turn.refl (fun j => F j ∨ G j) W2).drew).trans (t6.mono (fun _ _ e => .inl e))); have k16 := (t6.cell (a := ⟨pb, 1, none⟩) (lt_of_cell k1) (fun e => HPb.out pb (.inl e) rfl)).trans k1; have k26 := (t6.cell (a := ⟨pb, 2, none⟩) (lt_of_cell k2) (fun e => HPb.out pb (.inl e) rfl)).trans k2; clear t6 hd) | (go_at_call 111; refine (HD.out _ (Turn.refl _ _)).mono ?_; rintro e w7 ⟨rfl, t7, hT⟩; have HT := hid hT; have HU := hid (HU6.out.trans (t7.mono (fun _ _ e => .inr e))); have k17 := (t7.cell (a := ⟨pb, 1, none⟩) (lt_of_cell k16) (fun e => HPb.out pb (.inr e) rfl)).trans k16; have k27 := (t7.cell (a := ⟨pb, 2, none⟩) (lt_of_cell k26) (fun e => HPb.out pb (.inr e) rfl)).trans k26; have HC1 := hid k17; clear t7 hT))
        all_goals go_wp2_with fail
        all_goals go_meet
        all_goals exact ⟨_, _, rfl, rfl, HT, HC1, HU⟩
    have o11' : (x0 == 11) = false := beq_eq_false_iff_ne.2 o11
    as_aux_lemma =>
      have HT8 := hid (H2.out.shut.mono (k' := k + 2) (by omega))
      have HC1 := hid c1
      clear o7 o8 o9 o10 o11 c1 c2 c3
      go_wp2_with fail
      go_meet
      exact ⟨0, _, rfl, rfl, HT8, HC1, hid (Turn.refl _ _)⟩
    -->>
  case rest =>
    obtain ⟨z, T', rfl, rfl, hT, hC, hU⟩ := hcut
    obtain ⟨F', G', hF, hlt⟩ := hT.out.open_
    have HB := hid (bareT z wc (HL.out.turned0 hT.out.turn))
    have HB2 := hid (fun w' (tt : Turn (fun _ => False) wc w') => bareT (fileE T' x1) w' (HL.out.turned0 (hT.out.turn.trans tt)))
    have HSz := hid (fun w' (tt : Turn (fun _ => False) wc w') => size_is (hF.still tt).tree x1)
    have HRd : Hid (∀ w', Turn (fun _ => False) wc w' → Calls Tryz.prog 110 #[.pointer (some ⟨rb, 0, none⟩), .int .i64 x1, .int .i64 0, .int .i64 200] w' fun e w'' => e = .returned (.tuple #[.string (readT T' x1 0 200), .int .i64 (fileE T' x1)]) ∧ Turn (fun _ => False) w' w'') := hid (fun w' tt => by
      obtain ⟨nm', D, hin, _⟩ := hF.doc.turned tt (fun _ _ => id)
      rw [← (size_read hF.tree.ok x1).1]
      exact rread_is hin hF.tree.ok x1 0 200)
    have hsr := (size_read hF.tree.ok x1).2
    obtain ⟨rd, hrd⟩ : ∃ rd, readT T' x1 0 200 = rd := ⟨_, rfl⟩
    obtain ⟨sz, hsz⟩ : ∃ sz, sizeT T' x1 = sz := ⟨_, rfl⟩
    obtain ⟨fe, hfe⟩ : ∃ fe, fileE T' x1 = fe := ⟨_, rfl⟩
    rw [hrd, hfe] at HRd
    rw [hsz, hfe] at HSz
    rw [hfe] at HB2
    rw [hrd, hsz] at hsr
    have heq : (sz == (rd.size : Int)) = true := by rw [hsr]; simp
    clear H2 HPb c0 c1 c2 c3 hrd hsz hfe hsr hF hlt
    go_wp2_with fail
    refine HB.out.mono ?_
    rintro e w6 ⟨rfl, t6⟩
    have k1 := (t6.cell (a := ⟨pb, 1, none⟩) (lt_of_cell hC.out) id).trans hC.out
    have HT6 := hid t6
    clear t6
    go_wp2_with fail
    refine (HSz.out _ HT6.out).mono ?_
    rintro e w7 ⟨rfl, hw⟩; subst w7
    go_wp2_with fail
    refine (HRd.out _ HT6.out).mono ?_
    rintro e w8 ⟨rfl, t8⟩
    have HT8 := hid (HT6.out.trans t8)
    clear t8 k1
    go_wp2_with fail
    refine (HB2.out _ HT8.out).mono ?_
    rintro e w9 ⟨rfl, t9⟩
    have HT9 := hid (hT.out.still (HT8.out.trans t9))
    have HU6 := hid ((HT1.out.mono (fun _ _ h => h.elim)).trans (hU.out.trans ((HT8.out.trans t9).mono (fun _ _ h => h.elim))))
    clear t9
    go_wp2_with fail
    go_ret
    exact ⟨rfl, _, HT9.out, HU6.out⟩
end
end Go.Proofs.YtiohpmcedfbcgacGreatDoor
