/- ProcPlays walked: true, and nothing that was there turns. Conditions: the variable errors.errorType holds what is laid; the argument lies in memory. -/
import Derived.Test.YtiohpmcedfbcgabDoorProcBoth
import Derived.Test.YtiohpmcedfbcgabDoorPlace
import Derived.Deep.RegionWith
import Derived.Deep.RegionHeld3
import Derived.Deep.LoopGhost
import Derived.Deep.DeepCutAuto
import Derived.Deep.CutBlock
import Derived.Deep.QuietTactic
import Derived.BigQuiet
namespace Go.Proofs.YtiohpmcedfbcgabDoor
open Go.RowKit
set_option linter.unusedVariables false

/-- Doings (which, of whom, a number, yes or no) lie from off on in block b. -/
def LivesQ (w : World) (b off : Nat) (xs : List (Int × Int × Int × Bool)) : Prop :=
  ∀ j x, xs[j]? = some x → w.cell? ⟨b, off + j * 4, none⟩ = some (.int .i64 x.1) ∧ w.cell? ⟨b, off + j * 4 + 1, none⟩ = some (.int .i64 x.2.1) ∧ w.cell? ⟨b, off + j * 4 + 2, none⟩ = some (.int .i64 x.2.2.1) ∧ w.cell? ⟨b, off + j * 4 + 3, none⟩ = some (.bool x.2.2.2)
theorem LivesQ.turned {w w' : World} {b off : Nat} {xs : List (Int × Int × Int × Bool)} {S : Nat → Prop} (h : LivesQ w b off xs) (t : Turn S w w') (hb : b < w.heap.size) (hn : ¬ S b) : LivesQ w' b off xs := fun j x hx => by
  obtain ⟨a, c, d, e⟩ := h j x hx
  exact ⟨(t.cell (a := ⟨b, _, none⟩) hb hn).trans a, (t.cell (a := ⟨b, _, none⟩) hb hn).trans c, (t.cell (a := ⟨b, _, none⟩) hb hn).trans d, (t.cell (a := ⟨b, _, none⟩) hb hn).trans e⟩
theorem errQ0 : errQ 0 = .nilIface := rfl
theorem bareQ (z : Int) (w : World) (hg : Laid w) : Calls Tryd.prog 22 #[errQ z, .int .i64 z] w fun e w' => e = .returned (.bool true) ∧ Turn (fun _ => False) w w' := by
  by_cases hz : z = 0
  · subst hz
    exact bare_nil w
  · have e : errQ z = .iface 40 (.int .i64 z) := by unfold errQ; rw [if_neg hz]
    rw [e]
    exact bare_errno z w hg
theorem progPids {w : World} {tb mb : Nat} {l : List (Int × Nat)} {f : Nat → Pr} (h : TabIs w tb mb l f) (hwf : ∀ t ∈ l, (Lit.int .i64 t.1).wf = true) (hl : l.length ≤ 1000000) :
    Calls Tryd.prog 46 #[.pointer (some ⟨tb, 0, none⟩)] w fun e w' => ∃ a cap, e = .returned (.slice a (pidsOf l).length cap) ∧ RowIn w' a (pidsOf l) ∧ Turn (fun _ => False) w w' := by
  refine (pids_is h hwf hl).mono ?_
  rintro e w' ⟨v, rfl, hrow, hbel⟩
  have hI : IntsAt w' v (pidsOf l) := by
    unfold IntsAt
    rw [pidsOf_length]
    exact ownsRow_base_a hrow (Nat.zero_le _)
  rcases hI.shape with ⟨rfl, h0⟩ | ⟨g, cap, rfl, _⟩
  · exact ⟨none, 0, by rw [h0]; rfl, .inl h0, ⟨hbel.os, hbel.tape, hbel.output, hbel.size, fun k hk _ => hbel.block k hk⟩⟩
  · exact ⟨_, cap, rfl, hI.rowIn.1, ⟨hbel.os, hbel.tape, hbel.output, hbel.size, fun k hk _ => hbel.block k hk⟩⟩

theorem DocAfter.turn {rb pm : Nat} {l : List (Int × Nat)} {G : Nat → DP} {w w' : World} {l' : List (Int × Nat)} {f' : Nat → Pr} (h : DocAfter rb pm l G w w' l' f') : Turn (DFoot rb pm l G) w w' := by
  obtain ⟨_, _, _, _, t, _⟩ := h
  exact t
set_option maxRecDepth 100000 in
theorem prplays_many (a : Option Addr) (len cap : Nat) (w : World) (hm : 80 < len) (hl : len ≤ 9223372036854775807) :
    Calls Tryd.prog 5 #[.slice a len cap] w fun e w' => e = .returned (.bool true) ∧ Turn (fun _ => False) w w' := by
  have hm' : (80 : Int) < len := by omega
  clear hm
  go_enter Tryd.func5, Tryd.ntmps5
  go_wp2_with fail
  all_goals go_ret
  all_goals exact ⟨rfl, Turn.refl _ _⟩

set_option maxHeartbeats 40000000 in
set_option maxRecDepth 100000 in
theorem prplays_few (a : Option Addr) (xs : List (Int × Int × Int × Bool)) (cap : Nat) (W : World) (hL : Laid W) (hl : xs.length ≤ 80)
    (hc : xs ≠ [] → ∃ b off, a = some ⟨b, off, none⟩ ∧ LivesQ W b off xs ∧ b < W.heap.size) :
    Calls Tryd.prog 5 #[.slice a xs.length cap] W fun e w' => e = .returned (.bool true) ∧ Turn (fun _ => False) W w' := by
  have HC := hid hc
  have HL := hid hL
  have hm' : ¬ (80 : Int) < xs.length := by omega
  clear hc hL
  go_enter Tryd.func5, Tryd.ntmps5
  go_wp2_with fail
  refine (proc_new W).mono ?_
  rintro e w1 ⟨tb, mb, nb, rfl, hT, t1, hF⟩
  have HT := hid hT
  have HT1 := hid t1
  have HF := hid hF
  clear hT t1 hF
  go_wp2_with fail
  refine (refNewProcs w1 nb).mono ?_
  rintro e w2 ⟨rb, pm, G, M, rfl, hD, hCp, t2, hFd⟩
  have HDuo : Hid (Duo W w2 tb mb rb pm [((1 : Int), nb)] (fun _ => init) G M) := hid ⟨HT.out.turned t2 (fun _ _ => id), ⟨by simp, by simp, by simp [MNodup], by simp, ⟨nb, by simp [mget], rfl, rfl⟩, by simp, by simp [init], fun t ht => ⟨0, 0, rfl, rfl, by decide, by decide⟩⟩, hD, hCp _ rfl, HT1.out.trans t2, HF.out, fun k hk => Nat.le_trans HT1.out.size (hFd k hk), fun k hk hd => by
    have h1 := HT.out.foot_lt k hk
    have h2 := hFd k hd
    omega⟩
  clear hD hCp t2 hFd HT HT1 HF
  go_wp2_with fail
  go_loopg [5] (xs.length) (fun gl i wr => ∃ (j : Nat) (l : List (Int × Nat)) (f : Nat → Pr) (G : Nat → DP) (M : Nat → List (Int × Int)), j + gl = xs.length ∧ i = .int .i64 j ∧ Hid (Duo W wr tb mb rb pm l f G M))
  case atStart => exact ⟨0, _, _, _, _, by omega, rfl, HDuo⟩
  case round =>
    clear HDuo
    obtain ⟨j, l, f, G, M, hj, rfl, hDu⟩ := hrel
    by_cases hlt : j < xs.length
    · have hlt' : (j : Int) < xs.length := by omega
      obtain ⟨⟨x0, x1, x2, x3⟩, hx⟩ : ∃ x, xs[j]? = some x := ⟨_, List.getElem?_eq_getElem hlt⟩
      obtain ⟨b, off, rfl, hO, hb⟩ := HC.out (by rintro rfl; simp at hlt)
      obtain ⟨d0, d1, d2, d3⟩ := hO.turned hDu.out.turn hb id j _ hx
      clear hO hx
      obtain ⟨pb, hpb⟩ : ∃ pb, pb = wr.heap.size := ⟨_, rfl⟩
      have T1 : Turn (fun _ => False) wr (wr.alloc (.cells #[.int .i64 x0, .int .i64 x1, .int .i64 x2, .bool x3] 62)) := (Turn.refl _ _).alloc _
      have c0 : (wr.alloc (.cells #[.int .i64 x0, .int .i64 x1, .int .i64 x2, .bool x3] 62)).cell? ⟨pb, 0, none⟩ = some (.int .i64 x0) := by rw [hpb]; simp
      have c1 : (wr.alloc (.cells #[.int .i64 x0, .int .i64 x1, .int .i64 x2, .bool x3] 62)).cell? ⟨pb, 1, none⟩ = some (.int .i64 x1) := by rw [hpb]; simp
      have c2 : (wr.alloc (.cells #[.int .i64 x0, .int .i64 x1, .int .i64 x2, .bool x3] 62)).cell? ⟨pb, 2, none⟩ = some (.int .i64 x2) := by rw [hpb]; simp
      have c3 : (wr.alloc (.cells #[.int .i64 x0, .int .i64 x1, .int .i64 x2, .bool x3] 62)).cell? ⟨pb, 3, none⟩ = some (.bool x3) := by rw [hpb]; simp
      have HDu1 := hid (hDu.out.turned T1)
      have HPb : Hid (∀ k, TFoot tb mb l k ∨ DFoot rb pm l G k → k ≠ pb) := hid (fun k hk => by have := hDu.out.st k hk; omega)
      clear hDu T1
      go_upto_block 2 with fail
      rw [← hpb]
      generalize wr.alloc (.cells #[.int .i64 x0, .int .i64 x1, .int .i64 x2, .bool x3] 62) = W2 at *
      clear d0 d1 d2 d3 hpb
      go_cut [7, 8, 9, 10, 11, 12] (fun sn sk sm sj se sz wx => ∃ (n m z : Int) (l : List (Int × Nat)) (f : Nat → Pr) (G : Nat → DP) (M : Nat → List (Int × Int)), sn = .int .i64 n ∧ sk = .int .i64 n ∧ sm = .int .i64 m ∧ sj = .int .i64 m ∧ se = errQ z ∧ sz = .int .i64 z ∧ Hid (Duo W wx tb mb rb pm l f G M) ∧ Hid (wx.cell? ⟨pb, 1, none⟩ = some (.int .i64 x1)))
      case first =>
        by_cases o0 : x0 = 0
        · subst o0
          as_aux_lemma =>
            go_wp2_with fail
            refine (fork_both (rb := rb) (pm := pm) HDu1.out.tab HDu1.out.kin HDu1.out.coup x1).mono ?_
            rintro e w6 ⟨k, z, l', f', rfl, hs, hd⟩
            have hmid := HDu1.out.mid hs
            have HMid := hid hmid.1
            have HDc := hid hd
            have HSt := hid hs
            have k16 := (hs.2.2.1.cell (a := ⟨pb, 1, none⟩) (lt_of_cell c1) (fun e => HPb.out pb (.inl e) rfl)).trans c1
            clear hmid hs hd
            go_wp2_with fail
            refine (HDc.out _ HMid.out).mono ?_
            rintro e w7 ⟨rfl, hda⟩
            obtain ⟨G', M', hDu7⟩ := HDu1.out.step HSt.out hda
            have HDu7 := hid hDu7
            have k17 := (hda.turn.cell (a := ⟨pb, 1, none⟩) (lt_of_cell k16) (fun e => HPb.out pb (.inr e) rfl)).trans k16
            clear hda hDu7
            go_wp2_with fail
            go_meet
            exact ⟨k, 0, z, l', f', G', M', rfl, rfl, rfl, rfl, rfl, rfl, HDu7, hid k17⟩
        · have o0' : (x0 == 0) = false := beq_eq_false_iff_ne.2 o0
          by_cases o1 : x0 = 1
          · subst o1
            clear o0 o0'
            as_aux_lemma =>
              have HDd := hid (HDu1.out.turned (Turn.refl (fun _ => False) W2).drew)
              have k1 := ((Turn.refl (fun _ => False) W2).drew.cell (a := ⟨pb, 1, none⟩) (lt_of_cell c1) id).trans c1
              have k2 := ((Turn.refl (fun _ => False) W2).drew.cell (a := ⟨pb, 2, none⟩) (lt_of_cell c2) id).trans c2
              go_wp2_with fail
              go_region_held3 (fun w' => w'.cell? ⟨pb, 1, none⟩ = some (.int .i64 x1) ∧ w'.cell? ⟨pb, 2, none⟩ = some (.int .i64 x2))
                (first | exact ⟨k1, k2⟩ | exact ⟨k16, k26⟩ | exact ⟨k17, k27⟩ | go_keep)
                (first | (go_at_call 34; refine (exit_both (rb := rb) (pm := pm) HDd.out.tab HDd.out.kin HDd.out.coup x1 x2).mono ?_; rintro e w6 ⟨z, l', f', rfl, hs, hd⟩; have hmid := HDd.out.mid hs; have HMid := hid hmid.1; have HDc := hid hd; have HSt := hid hs; have k16 := (hs.2.2.1.cell (a := ⟨pb, 1, none⟩) (lt_of_cell k1) (fun e => HPb.out pb (.inl e) rfl)).trans k1; have k26 := (hs.2.2.1.cell (a := ⟨pb, 2, none⟩) (lt_of_cell k2) (fun e => HPb.out pb (.inl e) rfl)).trans k2; clear hmid hs hd) | (go_at_call 35; refine (HDc.out _ HMid.out).mono ?_; rintro e w7 ⟨rfl, hda⟩; obtain ⟨G', M', hDu7⟩ := HDd.out.step HSt.out hda; have HDu7 := hid hDu7; have k17 := (hda.turn.cell (a := ⟨pb, 1, none⟩) (lt_of_cell k16) (fun e => HPb.out pb (.inr e) rfl)).trans k16; have k27 := (hda.turn.cell (a := ⟨pb, 2, none⟩) (lt_of_cell k26) (fun e => HPb.out pb (.inr e) rfl)).trans k26; clear hda hDu7))
              all_goals go_wp2_with fail
              all_goals go_meet
              all_goals exact ⟨0, 0, z, l', f', G', M', rfl, rfl, rfl, rfl, rfl, rfl, HDu7, hid k17⟩
          · have o1' : (x0 == 1) = false := beq_eq_false_iff_ne.2 o1
            by_cases o2 : x0 = 2
            · subst o2
              clear o0 o1 o0' o1'
              as_aux_lemma =>
                go_wp2_with fail
                refine (wait_both (rb := rb) (pm := pm) HDu1.out.tab HDu1.out.kin HDu1.out.coup x1).mono ?_
                rintro e w6 ⟨k, c, z, l', f', rfl, hs, hd⟩
                have hmid := HDu1.out.mid hs
                have HMid := hid hmid.1
                have HDc := hid hd
                have HSt := hid hs
                have k16 := (hs.2.2.1.cell (a := ⟨pb, 1, none⟩) (lt_of_cell c1) (fun e => HPb.out pb (.inl e) rfl)).trans c1
                clear hmid hs hd
                go_wp2_with fail
                refine (HDc.out _ HMid.out).mono ?_
                rintro e w7 ⟨rfl, hda⟩
                obtain ⟨G', M', hDu7⟩ := HDu1.out.step HSt.out hda
                have HDu7 := hid hDu7
                have k17 := (hda.turn.cell (a := ⟨pb, 1, none⟩) (lt_of_cell k16) (fun e => HPb.out pb (.inr e) rfl)).trans k16
                clear hda hDu7
                go_wp2_with fail
                go_meet
                exact ⟨k, c, z, l', f', G', M', rfl, rfl, rfl, rfl, rfl, rfl, HDu7, hid k17⟩
            · have o2' : (x0 == 2) = false := beq_eq_false_iff_ne.2 o2
              by_cases o3 : x0 = 3
              · subst o3
                clear o0 o1 o2 o0' o1' o2'
                as_aux_lemma =>
                  have HDd := hid (HDu1.out.turned (Turn.refl (fun _ => False) W2).drew)
                  have k1 := ((Turn.refl (fun _ => False) W2).drew.cell (a := ⟨pb, 1, none⟩) (lt_of_cell c1) id).trans c1
                  have k2 := ((Turn.refl (fun _ => False) W2).drew.cell (a := ⟨pb, 2, none⟩) (lt_of_cell c2) id).trans c2
                  go_wp2_with fail
                  go_region_held3 (fun w' => w'.cell? ⟨pb, 1, none⟩ = some (.int .i64 x1) ∧ w'.cell? ⟨pb, 2, none⟩ = some (.int .i64 x2))
                    (first | exact ⟨k1, k2⟩ | exact ⟨k16, k26⟩ | exact ⟨k17, k27⟩ | go_keep)
                    (first | (go_at_call 38; refine (kill_both (rb := rb) (pm := pm) HDd.out.tab HDd.out.kin HDd.out.coup x1 x2).mono ?_; rintro e w6 ⟨z, l', f', rfl, hs, hd⟩; have hmid := HDd.out.mid hs; have HMid := hid hmid.1; have HDc := hid hd; have HSt := hid hs; have k16 := (hs.2.2.1.cell (a := ⟨pb, 1, none⟩) (lt_of_cell k1) (fun e => HPb.out pb (.inl e) rfl)).trans k1; have k26 := (hs.2.2.1.cell (a := ⟨pb, 2, none⟩) (lt_of_cell k2) (fun e => HPb.out pb (.inl e) rfl)).trans k2; clear hmid hs hd) | (go_at_call 39; refine (HDc.out _ HMid.out).mono ?_; rintro e w7 ⟨rfl, hda⟩; obtain ⟨G', M', hDu7⟩ := HDd.out.step HSt.out hda; have HDu7 := hid hDu7; have k17 := (hda.turn.cell (a := ⟨pb, 1, none⟩) (lt_of_cell k16) (fun e => HPb.out pb (.inr e) rfl)).trans k16; have k27 := (hda.turn.cell (a := ⟨pb, 2, none⟩) (lt_of_cell k26) (fun e => HPb.out pb (.inr e) rfl)).trans k26; clear hda hDu7))
                  all_goals go_wp2_with fail
                  all_goals go_meet
                  all_goals exact ⟨0, 0, z, l', f', G', M', rfl, rfl, rfl, rfl, rfl, rfl, HDu7, hid k17⟩
              · have o3' : (x0 == 3) = false := beq_eq_false_iff_ne.2 o3
                by_cases o4 : x0 = 4
                · subst o4
                  clear o0 o1 o2 o3 o0' o1' o2' o3'
                  as_aux_lemma =>
                    have HDd := hid (HDu1.out.turned (Turn.refl (fun _ => False) W2).drew)
                    have k1 := ((Turn.refl (fun _ => False) W2).drew.cell (a := ⟨pb, 1, none⟩) (lt_of_cell c1) id).trans c1
                    have k2 := ((Turn.refl (fun _ => False) W2).drew.cell (a := ⟨pb, 2, none⟩) (lt_of_cell c2) id).trans c2
                    have k3 := ((Turn.refl (fun _ => False) W2).drew.cell (a := ⟨pb, 3, none⟩) (lt_of_cell c3) id).trans c3
                    go_wp2_with fail
                    go_region_held3 (fun w' => w'.cell? ⟨pb, 1, none⟩ = some (.int .i64 x1) ∧ w'.cell? ⟨pb, 2, none⟩ = some (.int .i64 x2) ∧ w'.cell? ⟨pb, 3, none⟩ = some (.bool x3))
                      (first | exact ⟨k1, k2, k3⟩ | exact ⟨k16, k26, k36⟩ | exact ⟨k17, k27, k37⟩ | go_keep)
                      (first | (go_at_call 40; refine (ignore_both (rb := rb) (pm := pm) HDd.out.tab HDd.out.kin HDd.out.coup x1 x2 x3).mono ?_; rintro e w6 ⟨z, l', f', rfl, hs, hd⟩; have hmid := HDd.out.mid hs; have HMid := hid hmid.1; have HDc := hid hd; have HSt := hid hs; have k16 := (hs.2.2.1.cell (a := ⟨pb, 1, none⟩) (lt_of_cell k1) (fun e => HPb.out pb (.inl e) rfl)).trans k1; have k26 := (hs.2.2.1.cell (a := ⟨pb, 2, none⟩) (lt_of_cell k2) (fun e => HPb.out pb (.inl e) rfl)).trans k2; have k36 := (hs.2.2.1.cell (a := ⟨pb, 3, none⟩) (lt_of_cell k3) (fun e => HPb.out pb (.inl e) rfl)).trans k3; clear hmid hs hd) | (go_at_call 41; refine (HDc.out _ HMid.out).mono ?_; rintro e w7 ⟨rfl, hda⟩; obtain ⟨G', M', hDu7⟩ := HDd.out.step HSt.out hda; have HDu7 := hid hDu7; have k17 := (hda.turn.cell (a := ⟨pb, 1, none⟩) (lt_of_cell k16) (fun e => HPb.out pb (.inr e) rfl)).trans k16; have k27 := (hda.turn.cell (a := ⟨pb, 2, none⟩) (lt_of_cell k26) (fun e => HPb.out pb (.inr e) rfl)).trans k26; have k37 := (hda.turn.cell (a := ⟨pb, 3, none⟩) (lt_of_cell k36) (fun e => HPb.out pb (.inr e) rfl)).trans k36; clear hda hDu7))
                    all_goals go_wp2_with fail
                    all_goals go_meet
                    all_goals exact ⟨0, 0, z, l', f', G', M', rfl, rfl, rfl, rfl, rfl, rfl, HDu7, hid k17⟩
                · have o4' : (x0 == 4) = false := beq_eq_false_iff_ne.2 o4
                  by_cases o5 : x0 = 5
                  · subst o5
                    clear o0 o1 o2 o3 o4 o0' o1' o2' o3' o4'
                    as_aux_lemma =>
                      have HDd := hid (HDu1.out.turned (Turn.refl (fun _ => False) W2).drew)
                      have k1 := ((Turn.refl (fun _ => False) W2).drew.cell (a := ⟨pb, 1, none⟩) (lt_of_cell c1) id).trans c1
                      go_wp2_with fail
                      go_region_held3 (fun w' => w'.cell? ⟨pb, 1, none⟩ = some (.int .i64 x1))
                        (first | exact k1 | exact k16 | exact k17 | go_keep)
                        (first | (go_at_call 42; refine (take_both (rb := rb) (pm := pm) HDd.out.tab HDd.out.kin HDd.out.coup x1).mono ?_; rintro e w6 ⟨k, l', f', rfl, hs, hd⟩; have hmid := HDd.out.mid hs; have HMid := hid hmid.1; have HDc := hid hd; have HSt := hid hs; have k16 := (hs.2.2.1.cell (a := ⟨pb, 1, none⟩) (lt_of_cell k1) (fun e => HPb.out pb (.inl e) rfl)).trans k1; clear hmid hs hd) | (go_at_call 43; refine (HDc.out _ HMid.out).mono ?_; rintro e w7 ⟨rfl, hda⟩; obtain ⟨G', M', hDu7⟩ := HDd.out.step HSt.out hda; have HDu7 := hid hDu7; have k17 := (hda.turn.cell (a := ⟨pb, 1, none⟩) (lt_of_cell k16) (fun e => HPb.out pb (.inr e) rfl)).trans k16; clear hda hDu7))
                      all_goals go_wp2_with fail
                      all_goals go_meet
                      all_goals exact ⟨k, 0, 0, l', f', G', M', rfl, rfl, rfl, rfl, rfl, rfl, HDu7, hid k17⟩
                  · have o5' : (x0 == 5) = false := beq_eq_false_iff_ne.2 o5
                    as_aux_lemma =>
                      go_wp2_with fail
                      go_meet
                      exact ⟨0, 0, 0, l, f, G, M, rfl, rfl, rfl, rfl, rfl, rfl, HDu1, hid c1⟩
      case rest =>
        obtain ⟨n, m, z, l2, f2, G2, M2, rfl, rfl, rfl, rfl, rfl, rfl, HDu2, K1⟩ := hcut
        clear HDu1 HPb c0 c1 c2 c3
        have hln := HDu2.out.kin.len
        have hnel : l2 ≠ [] := by
          obtain ⟨b1, h1, _⟩ := HDu2.out.kin.one
          exact List.ne_nil_of_mem (mem_of_mget h1)
        have HPd := hid (refPids_is HDu2.out.doc HDu2.out.kin.nd (by omega) hnel)
        clear hnel
        go_wp2_with fail
        refine HPd.out.mono ?_
        rintro e w6 ⟨a6, cap6, rfl, hrow6, t6⟩
        have HDu6 := hid (HDu2.out.turned t6)
        have HRow6 := hid hrow6
        have K16 := hid ((t6.cell (a := ⟨pb, 1, none⟩) (lt_of_cell K1.out) id).trans K1.out)
        obtain ⟨ps, hps⟩ : ∃ ps, pidsOf l2 = ps := ⟨_, rfl⟩
        have hpl : ps.length ≤ 24 := by rw [← hps, pidsOf_length]; exact hln
        have HPs := hid hps
        rw [hps] at HRow6
        rw [hps]
        clear hrow6 t6 HPd HDu2 K1 hps
        have e1 : (n != n) = false := by simp
        have e2 : (m != m) = false := by simp
        have hpl' : (ps.length : Int) ≤ 24 := by omega
        go_upto_region 29 with fail
        have HPg : Hid (∀ w, Duo W w tb mb rb pm l2 f2 G2 M2 → Calls Tryd.prog 46 #[.pointer (some ⟨tb, 0, none⟩)] w fun e w' => ∃ a cap, e = .returned (.slice a ps.length cap) ∧ RowIn w' a ps ∧ Turn (fun _ => False) w w') := hid (fun w hd => by
          have h1 := progPids hd.tab hd.kin.wf (by have := hd.kin.len; omega)
          rw [HPs.out] at h1
          exact h1)
        have HDd := hid (HDu6.out.turned (Turn.refl (fun _ => False) w6).drew)
        have HRowd := hid (HRow6.out.turned (Turn.refl (fun _ => False) w6).drew)
        have k1 := ((Turn.refl (fun _ => False) w6).drew.cell (a := ⟨pb, 1, none⟩) (lt_of_cell K16.out) id).trans K16.out
        clear HDu6 HRow6 K16
        go_cut [159] (fun v wx => v = .bool false ∧ Hid (Duo W wx tb mb rb pm l2 f2 G2 M2) ∧ Hid (RowIn wx a6 ps))
        case first =>
          by_cases hr : RunsIn l2 f2 x1
          · as_aux_lemma =>
              have HRn := hid hr
              clear hr
              go_region_held3 (fun w' => w'.cell? ⟨pb, 1, none⟩ = some (.int .i64 x1)) (first | exact k1 | exact k17 | exact k18 | exact k19 | go_keep) (first | (go_at_call 22; refine (bareQ _ _ (HL.out.turned0 HDd.out.turn)).mono ?_; rintro e w7 ⟨rfl, t7⟩; have HDu7 := hid (HDd.out.turned t7); have HRow7 := hid (HRowd.out.turned t7); have k17 := (t7.cell (a := ⟨pb, 1, none⟩) (lt_of_cell k1) id).trans k1; clear t7) | (go_at_call 46; refine (HPg.out _ HDu7.out).mono ?_; rintro e w8 ⟨a8, cap8, rfl, hrow8, t8⟩; have HDu8 := hid (HDu7.out.turned t8); have HRow8 := hid (HRow7.out.turned t8); have HRow8b := hid hrow8; have k18 := (t8.cell (a := ⟨pb, 1, none⟩) (lt_of_cell k17) id).trans k17; clear t8 hrow8) | (go_at_call 45; refine (sameInts_same ps a8 a6 cap8 cap6 (by omega) HRow8b.out HRow8.out).mono ?_; rintro e w9 ⟨rfl, t9⟩; have HDu9 := hid (HDu8.out.turned t9); have HRow9 := hid (HRow8.out.turned t9); have k19 := (t9.cell (a := ⟨pb, 1, none⟩) (lt_of_cell k18) id).trans k18; clear t9) | (go_at_call 47; refine (runs_yes HDu9.out.tab x1 HRn.out).mono ?_; rintro e w10 ⟨rfl, rfl⟩) | (go_at_call 48; refine (refRuns_yes HDu9.out.doc HDu9.out.coup x1 HRn.out).mono ?_; rintro e w10 ⟨rfl, rfl⟩))
              all_goals go_wp2_with fail
              all_goals go_meet
              all_goals exact ⟨rfl, HDu9, HRow9⟩
          · as_aux_lemma =>
              have HRn := hid hr
              clear hr
              go_region_held3 (fun w' => w'.cell? ⟨pb, 1, none⟩ = some (.int .i64 x1)) (first | exact k1 | exact k17 | exact k18 | exact k19 | go_keep) (first | (go_at_call 22; refine (bareQ _ _ (HL.out.turned0 HDd.out.turn)).mono ?_; rintro e w7 ⟨rfl, t7⟩; have HDu7 := hid (HDd.out.turned t7); have HRow7 := hid (HRowd.out.turned t7); have k17 := (t7.cell (a := ⟨pb, 1, none⟩) (lt_of_cell k1) id).trans k1; clear t7) | (go_at_call 46; refine (HPg.out _ HDu7.out).mono ?_; rintro e w8 ⟨a8, cap8, rfl, hrow8, t8⟩; have HDu8 := hid (HDu7.out.turned t8); have HRow8 := hid (HRow7.out.turned t8); have HRow8b := hid hrow8; have k18 := (t8.cell (a := ⟨pb, 1, none⟩) (lt_of_cell k17) id).trans k17; clear t8 hrow8) | (go_at_call 45; refine (sameInts_same ps a8 a6 cap8 cap6 (by omega) HRow8b.out HRow8.out).mono ?_; rintro e w9 ⟨rfl, t9⟩; have HDu9 := hid (HDu8.out.turned t9); have HRow9 := hid (HRow8.out.turned t9); have k19 := (t9.cell (a := ⟨pb, 1, none⟩) (lt_of_cell k18) id).trans k18; clear t9) | (go_at_call 47; refine (runs_no HDu9.out.tab x1 HRn.out).mono ?_; rintro e w10 ⟨rfl, rfl⟩) | (go_at_call 48; refine (refRuns_no HDu9.out.doc HDu9.out.coup x1 HRn.out).mono ?_; rintro e w10 ⟨rfl, rfl⟩))
              all_goals go_wp2_with fail
              all_goals go_meet
              all_goals exact ⟨rfl, HDu9, HRow9⟩
        case rest =>
          obtain ⟨rfl, HDu, HRow⟩ := hcut
          clear HDd HRowd k1 HPg
          go_wp2_with fail
          go_loopw [14] (fun i wr => ∃ k : Nat, k ≤ ps.length ∧ i = .int .i64 k ∧ Hid (Duo W wr tb mb rb pm l2 f2 G2 M2) ∧ Hid (RowIn wr a6 ps)) (fun i _ => ps.length - (intOf i).toNat)
          case atStart => exact ⟨0, Nat.zero_le _, rfl, HDu, HRow⟩
          case round =>
            clear HDu HRow
            obtain ⟨k, hk, rfl, HDu, HRow⟩ := hrel
            by_cases hkl : k < ps.length
            · have hkl' : (k : Int) < ps.length := by omega
              obtain ⟨p, hp⟩ : ∃ p, ps[k]? = some p := ⟨_, List.getElem?_eq_getElem hkl⟩
              obtain ⟨g, rfl, hg, hrow⟩ := HRow.out.resolve_left (by rintro rfl; simp at hkl)
              have cn := hrow k p hp
              have hpm : p ∈ l2.map (·.1) := by
                have h1 := List.mem_of_getElem? hp
                rw [← HPs.out] at h1
                exact mem_pidsOf.1 h1
              obtain ⟨bp, hbp⟩ := mget_of_key hpm
              have hh := HDu.out.doc.hdr
              have hlk : ∀ w', Duo W w' tb mb rb pm l2 f2 G2 M2 → (Instr.lookup 77 (.map (some pm)) (.int .i64 p) false).run Tryd.prog w' = .ok (.agg #[.int .i64 (f2 bp).parent, .int .i64 (f2 bp).state, .int .i64 (f2 bp).code, .map (some (G2 bp).wb), .map (some (G2 bp).ib)]) w' := fun w' hd => by
                have lk := lookup_doc hd.doc p
                unfold whereD at lk
                rw [hbp] at lk
                simp only [Option.elim, encDP] at lk
                obtain ⟨cp1, cp2, cp3, _⟩ := hd.coup _ (mem_of_mget hbp)
                simp only at cp1 cp2 cp3
                rw [cp1, cp2, cp3] at lk
                exact lk
              have lkA := hlk _ (HDu.out.turned (Turn.refl (fun _ => False) wr).drew)
              have lkB := hlk _ (HDu.out.turned ((Turn.refl (fun _ => False) wr).alloc (.cells #[.int .i64 0, .int .i64 0, .int .i64 0, .map none, .map none] 76)).drew)
              have hst : stR l2 f2 p = (f2 bp).state := by unfold stR; rw [hbp]; rfl
              have hrbw : rb < wr.heap.size := lt_of_cell hh
              have hQs := fun w' (hd : Duo W w' tb mb rb pm l2 f2 G2 M2) => state_is hd.tab p
              have hQp := fun w' (hd : Duo W w' tb mb rb pm l2 f2 G2 M2) => parent_is hd.tab p
              rw [hst] at hQs
              rw [hbp] at hQp
              simp only [Option.elim] at hQp
              have HQs := hid hQs
              have HQp := hid hQp
              have es : ((f2 bp).state != (f2 bp).state) = false := by simp
              have ep : ((f2 bp).parent != (f2 bp).parent) = false := by simp
              clear hQs hQp hst hlk hp hrow hpm hbp
              go_upto_region 34 with fail
              go_region
              all_goals
                have T5 : Turn (fun _ => False) wr (wr.alloc (.cells #[.int .i64 (f2 bp).parent, .int .i64 (f2 bp).state, .int .i64 (f2 bp).code, .map (some (G2 bp).wb), .map (some (G2 bp).ib)] 76)).drew := ((Turn.refl _ _).alloc _).drew
                have q0 : (wr.alloc (.cells #[.int .i64 (f2 bp).parent, .int .i64 (f2 bp).state, .int .i64 (f2 bp).code, .map (some (G2 bp).wb), .map (some (G2 bp).ib)] 76)).drew.cell? ⟨wr.heap.size, 0, none⟩ = some (.int .i64 (f2 bp).parent) := World.cell?_alloc_new _ _ _ _
                have q1 : (wr.alloc (.cells #[.int .i64 (f2 bp).parent, .int .i64 (f2 bp).state, .int .i64 (f2 bp).code, .map (some (G2 bp).wb), .map (some (G2 bp).ib)] 76)).drew.cell? ⟨wr.heap.size, 1, none⟩ = some (.int .i64 (f2 bp).state) := World.cell?_alloc_new _ _ _ _
                have cn5 := (T5.cell (a := ⟨g, k, none⟩) (lt_of_cell cn) id).trans cn
                have HDu5 := hid (HDu.out.turned T5)
                have HRow5 := hid (HRow.out.turned T5)
                obtain ⟨qb, hqb⟩ : ∃ qb, wr.heap.size = qb := ⟨_, rfl⟩
                rw [hqb] at q0 q1
                rw [hqb]
                generalize (wr.alloc (.cells #[.int .i64 (f2 bp).parent, .int .i64 (f2 bp).state, .int .i64 (f2 bp).code, .map (some (G2 bp).wb), .map (some (G2 bp).ib)] 76)).drew = W5 at *
                clear T5 cn lkA lkB hh hqb
                have HQ1 := hid (fun n => (HQs.out _ (HDu5.out.turned ((Turn.refl (fun _ => False) W5).drewN n))).mono fun _ _ ⟨he, hw⟩ => (⟨he, hw.symm⟩ : _ ∧ _ = W5.drewN n))
                have HQ2 := hid (fun n => (HQp.out _ (HDu5.out.turned ((Turn.refl (fun _ => False) W5).drewN n))).mono fun _ _ ⟨he, hw⟩ => (⟨he, hw.symm⟩ : _ ∧ _ = W5.drewN n))
                go_wp2_with fail
                go_quiet ((first | (go_at_call 49; with_reducible exact Calls.quiet_of_same (HQ1.out _)) | (go_at_call 50; with_reducible exact Calls.quiet_of_same (HQ2.out _))))
                go_wp2_with fail
                have T0 := (Turn.refl (fun _ => False) W5).drewN nq
                go_roundw
                case rel => exact ⟨k + 1, by omega, by go_num, hid (HDu5.out.turned T0), hid (HRow5.out.turned T0)⟩
                case measure => simp [intOf]; omega
            · have hkl' : ¬ (k : Int) < ps.length := by omega
              go_wp2_with fail
              go_roundg (gk - 1)
              case measure => omega
              case rel => exact ⟨j + 1, _, _, _, _, by omega, by go_num, HDu⟩
    · have hlt' : ¬ (j : Int) < xs.length := by omega
      have hno : mget l (-1) = none := mget_none (fun t ht e => by have := hDu.out.kin.rng t ht; omega)
      have hs := state_is hDu.out.tab (-1)
      have hp := parent_is hDu.out.tab (-1)
      unfold stR at hs
      rw [hno] at hs hp
      simp only [Option.elim] at hs hp
      have HS := hid hs
      have HP := hid hp
      clear hs hp hno
      go_wp2_with fail
      refine HS.out.mono ?_
      rintro e w6 ⟨rfl, rfl⟩
      go_wp2_with fail
      refine HP.out.mono ?_
      rintro e w6 ⟨rfl, rfl⟩
      go_wp2_with fail
      go_ret
      exact ⟨rfl, hDu.out.turn⟩
end Go.Proofs.YtiohpmcedfbcgabDoor
