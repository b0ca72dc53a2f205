/- PipePlays walked: true, and nothing that was there turns. Conditions: the variable errors.errorType holds what is laid; the argument lies in memory. -/
import Derived.Test.YtiohpmcedfbcgaaDoorPipeRef
import Derived.Test.YtiohpmcedfbcgaaDoorPlace
import Derived.Deep.RegionWith
import Derived.Deep.LoopGhost
import Derived.Deep.DeepCutAuto
import Derived.Deep.CutBlock
import Derived.Deep.QuietTactic
import Derived.Outline
namespace Go.Proofs.YtiohpmcedfbcgaaDoor
open Go.RowKit
set_option linter.unusedVariables false

/-- Flows (which, a number, a text) lie from off on in block b. -/
def FlowsQ (w : World) (b off : Nat) (xs : List (Int × Int × ByteArray)) : Prop :=
  ∀ j x, xs[j]? = some x → w.cell? ⟨b, off + j * 3, none⟩ = some (.int .i64 x.1) ∧ w.cell? ⟨b, off + j * 3 + 1, none⟩ = some (.int .i64 x.2.1) ∧ w.cell? ⟨b, off + j * 3 + 2, none⟩ = some (.string x.2.2)
theorem FlowsQ.turned {w w' : World} {b off : Nat} {xs : List (Int × Int × ByteArray)} {S : Nat → Prop} (h : FlowsQ w b off xs) (t : Turn S w w') (hb : b < w.heap.size) (hn : ¬ S b) : FlowsQ w' b off xs := fun j x hx => by
  obtain ⟨a, c, d⟩ := h j x hx
  exact ⟨(t.cell (a := ⟨b, _, none⟩) hb hn).trans a, (t.cell (a := ⟨b, _, none⟩) hb hn).trans c, (t.cell (a := ⟨b, _, none⟩) hb hn).trans d⟩

theorem bare_any (z : Int) (w : World) (hg : Laid w) : Calls Tryd.prog 23 #[errV z, .int .i64 z] w fun e w' => e = .returned (.bool true) ∧ Turn (fun _ => False) w w' := by
  by_cases hz : z = 0
  · subst hz
    exact bare_nil w
  · have e : errV z = .iface 34 (.int .i64 z) := by unfold errV; rw [if_neg hz]
    rw [e]
    exact bare_errno z w hg

theorem turnR_fit {e0 e1 k c : Int} {N : Int} (h0 : 0 ≤ e0 ∧ e0 ≤ N) (h1 : 0 ≤ e1 ∧ e1 ≤ N) (hc : -1 ≤ c ∧ c ≤ 1) :
    (0 ≤ (turnR e0 e1 k c).2.1 ∧ (turnR e0 e1 k c).2.1 ≤ N + 1) ∧ (0 ≤ (turnR e0 e1 k c).2.2 ∧ (turnR e0 e1 k c).2.2 ≤ N + 1) := by
  unfold turnR
  split
  · split
    · simp only; omega
    · simp only; omega
  · split
    · split
      · simp only; omega
      · simp only; omega
    · simp only; omega
theorem writeR_fit {e0 : Int} {b s : ByteArray} (hb : b.size ≤ 16) : (writeR e0 b s).2.2.size ≤ 16 := by
  unfold writeR
  split
  · exact hb
  · split
    · exact hb
    · split
      · exact hb
      · simp only [ByteArray.size_append, ByteArray.size_extract]; omega
theorem readR_fit {e1 : Int} {b : ByteArray} {n : Int} (hb : b.size ≤ 16) : (readR e1 b n).2.2.size ≤ 16 := by
  unfold readR
  split
  · exact hb
  · split
    · exact hb
    · simp only [ByteArray.size_extract]; omega

set_option maxRecDepth 100000 in
theorem pplays_many (a : Option Addr) (len cap : Nat) (w : World) (hm : 60 < len) (hl : len ≤ 9223372036854775807) :
    Calls Tryd.prog 7 #[.slice a len cap] w fun e w' => e = .returned (.bool true) ∧ Turn (fun _ => False) w w' := by
  have hm' : (60 : Int) < len := by omega
  go_enter Tryd.func7, Tryd.ntmps7
  go_wp2_with fail
  go_ret
  exact ⟨rfl, Turn.refl _ _⟩

theorem pipe_new (w : World) (t : TypeId) : PipeIs (w.alloc (.cells #[.string { data := #[] }, .int .i64 0, .int .i64 0] t)) w.heap.size { data := #[] } 0 0 :=
  ⟨by simp, by simp, by simp, fun i => by simp⟩

set_option maxHeartbeats 40000000 in
set_option maxRecDepth 100000 in
theorem pplays_few (a : Option Addr) (xs : List (Int × Int × ByteArray)) (cap : Nat) (W : World) (hL : Laid W) (hl : xs.length ≤ 60)
    (hc : xs ≠ [] → ∃ b off, a = some ⟨b, off, none⟩ ∧ FlowsQ W b off xs ∧ b < W.heap.size) :
    Calls Tryd.prog 7 #[.slice a xs.length cap] W fun e w' => e = .returned (.bool true) ∧ Turn (fun _ => False) W w' := by
  have HC := hid hc
  have HL := hid hL
  have hm' : ¬ (60 : Int) < xs.length := by omega
  have HP0 := hid ((pipe_new W 26).turned ((Turn.refl (fun _ => False) _).alloc (.cells #[.string { data := #[] }, .int .i64 0, .int .i64 0] 79)) id)
  have HQ0 := hid (pipe_new (W.alloc (.cells #[.string { data := #[] }, .int .i64 0, .int .i64 0] 26)) 79)
  rw [World.size_alloc] at HQ0
  have HT0 : Hid (Turn (fun _ => False) W ((W.alloc (.cells #[.string { data := #[] }, .int .i64 0, .int .i64 0] 26)).alloc (.cells #[.string { data := #[] }, .int .i64 0, .int .i64 0] 79))) := hid (((Turn.refl _ _).alloc _).alloc _)
  clear hc hL
  go_enter Tryd.func7, Tryd.ntmps7
  go_wp2_with fail
  generalize (W.alloc (.cells #[.string { data := #[] }, .int .i64 0, .int .i64 0] 26)).alloc (.cells #[.string { data := #[] }, .int .i64 0, .int .i64 0] 79) = W1 at *
  obtain ⟨p, hp⟩ : ∃ p, W.heap.size = p := ⟨_, rfl⟩
  rw [hp] at HP0 HQ0
  rw [hp]
  go_loopg [5] (xs.length) (fun g i wr => ∃ (j : Nat) (B : ByteArray) (e0 e1 : Int), j + g = xs.length ∧ i = .int .i64 j ∧ Hid (PipeIs wr p B e0 e1) ∧ Hid (PipeIs wr (p + 1) B e0 e1) ∧ Hid (B.size ≤ 16) ∧ Hid (0 ≤ e0 ∧ e0 ≤ j) ∧ Hid (0 ≤ e1 ∧ e1 ≤ j) ∧ Hid (Turn (fun _ => False) W wr))
  case atStart => exact ⟨0, _, 0, 0, by omega, rfl, HP0, HQ0, hid (by decide), hid (by omega), hid (by omega), HT0⟩
  case round =>
    clear HP0 HQ0 HT0
    obtain ⟨j, B, e0, e1, hj, rfl, hP, hQ, hB, hE0, hE1, hT⟩ := hrel
    by_cases hlt : j < xs.length
    · have hlt' : (j : Int) < xs.length := by omega
      obtain ⟨⟨x0, x1, x2⟩, hx⟩ : ∃ x, xs[j]? = some x := ⟨_, List.getElem?_eq_getElem hlt⟩
      obtain ⟨b, off, rfl, hO, hb⟩ := HC.out (by rintro rfl; simp at hlt)
      obtain ⟨d0, d1, d2⟩ := hO.turned hT.out hb id j _ hx
      obtain ⟨f, hf⟩ : ∃ f, f = wr.heap.size := ⟨_, rfl⟩
      have T1 : Turn (fun _ => False) wr (wr.alloc (.cells #[.int .i64 x0, .int .i64 x1, .string x2] 81)) := (Turn.refl _ _).alloc _
      have c0 : (wr.alloc (.cells #[.int .i64 x0, .int .i64 x1, .string x2] 81)).cell? ⟨f, 0, none⟩ = some (.int .i64 x0) := by rw [hf]; simp
      have c1 : (wr.alloc (.cells #[.int .i64 x0, .int .i64 x1, .string x2] 81)).cell? ⟨f, 1, none⟩ = some (.int .i64 x1) := by rw [hf]; simp
      have c2 : (wr.alloc (.cells #[.int .i64 x0, .int .i64 x1, .string x2] 81)).cell? ⟨f, 2, none⟩ = some (.string x2) := by rw [hf]; simp
      have hpf : p + 1 < f := by rw [hf]; exact hQ.out.lt
      have HP := hid (hP.out.turned T1 id)
      have HQ := hid (hQ.out.turned T1 id)
      have HT := hid (hT.out.trans T1)
      clear hO hx hP hQ hT T1
      go_upto_region 9 with fail
      rw [← hf]
      generalize wr.alloc (.cells #[.int .i64 x0, .int .i64 x1, .string x2] 81) = W2 at *
      clear d0 d1 d2 hf
      by_cases hbig : 100 < x2.size
      · have hbig' : (100 : Int) < x2.size := by omega
        go_wp2_with fail
        go_roundg (gk - 1)
        case measure => omega
        case rel => exact ⟨j + 1, B, e0, e1, by omega, by go_num, HP, HQ, hB, hid (by have := hE0.out; omega), hid (by have := hE1.out; omega), HT⟩
      · have hbig' : ¬ (100 : Int) < x2.size := by omega
        have hsz : x2.size ≤ 100 := by omega
        clear hbig
        obtain ⟨n, hn⟩ : ∃ n : Nat, n = j + 1 := ⟨_, rfl⟩
        have HN := hid hn
        have hj60 : (j : Int) ≤ 60 := by omega
        clear hn
        go_upto_block 2 with fail
        go_cut [7] (fun _ wx => ∃ (B : ByteArray) (e0 e1 : Int), Hid (PipeIs wx p B e0 e1) ∧ Hid (PipeIs wx (p + 1) B e0 e1) ∧ Hid (B.size ≤ 16) ∧ Hid (0 ≤ e0 ∧ e0 ≤ n) ∧ Hid (0 ≤ e1 ∧ e1 ≤ n) ∧ Hid (Turn (fun _ => False) W wx))
        case first =>
          have HPd := hid HP.out.drew
          have HQd := hid HQ.out.drew
          have HTd := hid HT.out.drew
          have HB0 : Hid (0 ≤ e0 ∧ e0 ≤ 1000) := hid (by have := hE0.out; omega)
          have HB1 : Hid (0 ≤ e1 ∧ e1 ≤ 1000) := hid (by have := hE1.out; omega)
          have HFitOpen : Hid ((0 ≤ (turnR e0 e1 x1 1).2.1 ∧ (turnR e0 e1 x1 1).2.1 ≤ n) ∧ (0 ≤ (turnR e0 e1 x1 1).2.2 ∧ (turnR e0 e1 x1 1).2.2 ≤ n)) := hid (by have := turnR_fit (k := x1) (c := 1) hE0.out hE1.out (by decide); have := HN.out; omega)
          have HFitClose : Hid ((0 ≤ (turnR e0 e1 x1 (-1)).2.1 ∧ (turnR e0 e1 x1 (-1)).2.1 ≤ n) ∧ (0 ≤ (turnR e0 e1 x1 (-1)).2.2 ∧ (turnR e0 e1 x1 (-1)).2.2 ≤ n)) := hid (by have := turnR_fit (k := x1) (c := -1) hE0.out hE1.out (by decide); have := HN.out; omega)
          by_cases o0 : x0 = 0
          · subst o0
            as_aux_lemma =>
              go_upto_region 12 with fail
              go_region_with (first | (go_at_call 10; refine (open_any HPd.out HB0.out HB1.out x1).mono ?_; rintro e w3 ⟨rfl, hp3, t3⟩; have HP3 := hid hp3; have HQ3 := hid (HQd.out.turned t3 (by omega)); have HT3 := hid (HTd.out.trans' t3 (fun k hk e => by omega)); have c13 := (t3.cell (a := ⟨f, 1, none⟩) (lt_of_cell c1) (by simp only; omega)).trans c1; clear hp3 t3) | (go_at_call 32; refine (turn_any HQ3.out HB0.out HB1.out x1 1 (by decide)).mono ?_; rintro e w4 ⟨rfl, hq4, t4⟩; have HQ4 := hid hq4; have HP4 := hid (HP3.out.turned t4 (by omega)); have HT4 := hid (HT3.out.trans' t4 (fun k hk e => by omega)); clear hq4 t4) | (go_at_call 23; refine (bare_any _ _ (HL.out.turned0 HT4.out)).mono ?_; rintro e w5 ⟨rfl, t5⟩; have HT5 := hid t5; clear t5))
              all_goals go_wp2_with fail
              all_goals go_meet
              all_goals exact ⟨_, _, _, hid (HP4.out.turned HT5.out id), hid (HQ4.out.turned HT5.out id), hB, hid (HFitOpen.out.1), hid (HFitOpen.out.2), hid (HT4.out.trans HT5.out)⟩
          · have o0' : (x0 == 0) = false := by simp [o0]
            by_cases o1 : x0 = 1
            · subst o1
              clear o0 o0'
              as_aux_lemma =>
                go_upto_region 15 with fail
                go_region_with (first | (go_at_call 16; refine (close_any HPd.out HB0.out HB1.out x1).mono ?_; rintro e w3 ⟨rfl, hp3, t3⟩; have HP3 := hid hp3; have HQ3 := hid (HQd.out.turned t3 (by omega)); have HT3 := hid (HTd.out.trans' t3 (fun k hk e => by omega)); have c13 := (t3.cell (a := ⟨f, 1, none⟩) (lt_of_cell c1) (by simp only; omega)).trans c1; clear hp3 t3) | (go_at_call 32; refine (turn_any HQ3.out HB0.out HB1.out x1 (-1) (by decide)).mono ?_; rintro e w4 ⟨rfl, hq4, t4⟩; have HQ4 := hid hq4; have HP4 := hid (HP3.out.turned t4 (by omega)); have HT4 := hid (HT3.out.trans' t4 (fun k hk e => by omega)); clear hq4 t4) | (go_at_call 23; refine (bare_any _ _ (HL.out.turned0 HT4.out)).mono ?_; rintro e w5 ⟨rfl, t5⟩; have HT5 := hid t5; clear t5))
                all_goals go_wp2_with fail
                all_goals go_meet
                all_goals exact ⟨_, _, _, hid (HP4.out.turned HT5.out id), hid (HQ4.out.turned HT5.out id), hB, hid (HFitClose.out.1), hid (HFitClose.out.2), hid (HT4.out.trans HT5.out)⟩
            · have o1' : (x0 == 1) = false := by simp [o1]
              by_cases o2 : x0 = 2
              · subst o2
                clear o0 o0' o1 o1'
                as_aux_lemma =>
                  go_wp2_with fail
                  refine (refWrite_is HQ.out hE0.out.1 x2 (by omega) hB.out).mono ?_
                  rintro e w3 ⟨rfl, hq3, t3⟩
                  have HQ3 := hid hq3
                  have HP3 := hid (HP.out.turned t3 (by omega))
                  have HT3 := hid (HT.out.trans' t3 (fun k hk e => by omega))
                  have c23 := (t3.cell (a := ⟨f, 2, none⟩) (lt_of_cell c2) (by simp only; omega)).trans c2
                  clear hq3 t3
                  go_wp2_with fail
                  refine (write_is HP3.out hE0.out.1 x2 (by omega) hB.out).mono ?_
                  rintro e w4 ⟨rfl, hp4, t4⟩
                  have HP4 := hid hp4
                  have HQ4 := hid (HQ3.out.turned t4 (by omega))
                  have HT4 := hid (HT3.out.trans' t4 (fun k hk e => by omega))
                  clear hp4 t4
                  go_wp2_with fail
                  refine (bare_any _ _ (HL.out.turned0 HT4.out)).mono ?_
                  rintro e w5 ⟨rfl, t5⟩
                  have HT5 := hid t5
                  clear t5
                  go_wp2_with fail
                  go_meet
                  exact ⟨_, _, _, hid (HP4.out.turned HT5.out id), hid (HQ4.out.turned HT5.out id), hid (writeR_fit hB.out), hid (by have := hE0.out; have := HN.out; omega), hid (by have := hE1.out; have := HN.out; omega), hid (HT4.out.trans HT5.out)⟩
              · have o2' : (x0 == 2) = false := by simp [o2]
                by_cases o3 : x0 = 3
                · subst o3
                  clear o0 o0' o1 o1' o2 o2'
                  as_aux_lemma =>
                    go_wp2_with fail
                    refine (refRead_is HQ.out hE1.out.1 x1 hB.out).mono ?_
                    rintro e w3 ⟨rfl, hq3, t3⟩
                    have HQ3 := hid hq3
                    have HP3 := hid (HP.out.turned t3 (by omega))
                    have HT3 := hid (HT.out.trans' t3 (fun k hk e => by omega))
                    have c13 := (t3.cell (a := ⟨f, 1, none⟩) (lt_of_cell c1) (by simp only; omega)).trans c1
                    clear hq3 t3
                    go_wp2_with fail
                    refine (read_is HP3.out hE1.out.1 x1 hB.out).mono ?_
                    rintro e w4 ⟨rfl, hp4, t4⟩
                    have HP4 := hid hp4
                    have HQ4 := hid (HQ3.out.turned t4 (by omega))
                    have HT4 := hid (HT3.out.trans' t4 (fun k hk e => by omega))
                    clear hp4 t4
                    go_wp2_with fail
                    refine (bare_any _ _ (HL.out.turned0 HT4.out)).mono ?_
                    rintro e w5 ⟨rfl, t5⟩
                    have HT5 := hid t5
                    clear t5
                    go_wp2_with fail
                    go_meet
                    exact ⟨_, _, _, hid (HP4.out.turned HT5.out id), hid (HQ4.out.turned HT5.out id), hid (readR_fit hB.out), hid (by have := hE0.out; have := HN.out; omega), hid (by have := hE1.out; have := HN.out; omega), hid (HT4.out.trans HT5.out)⟩
                · have o3' : (x0 == 3) = false := by simp [o3]
                  as_aux_lemma =>
                    go_wp2_with fail
                    go_meet
                    exact ⟨_, _, _, HP, HQ, hB, hid (by have := hE0.out; have := HN.out; omega), hid (by have := hE1.out; have := HN.out; omega), HT⟩
        case rest =>
          obtain ⟨B2, g0, g1, HP2, HQ2, hB2, hG0, hG1, HT2⟩ := hcut
          clear HP HQ HT hB hE0 hE1 c0 c1 c2
          go_upto_region 28 with (go_at_call 35; refine (ends_is HP2.out).mono ?_; rintro e w3 ⟨rfl, t3⟩; have HP3 := hid (HP2.out.turned t3 id); have HQ3 := hid (HQ2.out.turned t3 id); have HT3 := hid (HT2.out.trans t3); clear t3)
          have k0 := HQ3.out.c0
          have k1 := HQ3.out.c1
          have k2 := HQ3.out.c2
          have HLen := hid (fun n => (len_is (HP3.out.turned ((Turn.refl (fun _ => False) _).drewN n) id)).mono fun _ _ ⟨he, hw⟩ => (⟨he, hw.symm⟩ : _ ∧ _ = World.drewN _ n))
          have m0 : (g0 != g0) = false := by simp
          have m1 : (g1 != g1) = false := by simp
          have m2 : ((B2.size : Int) != B2.size) = false := by simp
          go_quiet ((go_at_call 13; with_reducible exact Calls.quiet_of_same (HLen.out _)))
          go_wp2_with fail
          go_roundg (gk - 1)
          case measure => omega
          case rel => exact ⟨j + 1, B2, g0, g1, by omega, by go_num, hid (HP3.out.turned ((Turn.refl (fun _ => False) _).drewN _) id), hid (HQ3.out.turned ((Turn.refl (fun _ => False) _).drewN _) id), hB2, hid (by have := hG0.out; have := HN.out; omega), hid (by have := hG1.out; have := HN.out; omega), hid (HT3.out.drewN _)⟩
    · go_wp2_with fail
      all_goals go_ret
      all_goals exact ⟨rfl, hT.out⟩
end Go.Proofs.YtiohpmcedfbcgaaDoor
