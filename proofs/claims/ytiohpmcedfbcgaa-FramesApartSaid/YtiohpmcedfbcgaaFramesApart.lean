/- FramesApart: for every input the law returns true. No condition. -/
import Derived.Test.YtiohpmcedfbcgaaRows
import Derived.Test.YtiohpmcedfbcgaaFrames
import Derived.Test.YtiohpmcedfbcgaaPick
import Derived.ProofKit
namespace Go.Proofs.Ytiohpmcedfbcgaa
open Go.RowKit

theorem get_val {mb wb n : Nat} {m : Nat → Nat → Int} {w : World} (hm : MemIs w mb wb n m) (f k x : Int) (hf0 : 0 ≤ f) (hf : f < n) (hk0 : 0 ≤ k) (hk : k < 8) (hx : m f.toNat k.toNat = x) :
    Calls Try.prog 12 #[.pointer (some ⟨mb, 0, none⟩), .int .i64 f, .int .i64 k] w fun e w' => e = .returned (.tuple #[.int .i64 x, .nilIface]) ∧ w = w' := by
  subst hx
  exact get_yes hm f k hf0 hf hk0 hk

set_option maxHeartbeats 1000000 in
set_option maxRecDepth 100000 in
theorem framed_any (w : World) : Calls Try.prog 8 #[] w fun e w' => e = .returned (.bool true) ∧ Turn (fun _ => False) w w' := by
  go_enter Try.func8, Try.ntmps8
  go_wp2_with fail
  refine (new_yes 2 w (by decide) (by decide)).mono ?_
  rintro e w1 ⟨mb, wb, rfl, hm, h1, h2, t1⟩
  go_wp2_with fail
  refine (set_yes hm 1 2 7 (by decide) (by decide) (by decide) (by decide)).mono ?_
  rintro e w2 ⟨rfl, hm2, t2⟩
  go_wp2_with fail
  refine (copy_yes hm2 0 1 (by decide) (by decide) (by decide) (by decide)).mono ?_
  rintro e w3 ⟨rfl, hm3, t3⟩
  go_wp2_with fail
  refine (get_val hm3 0 2 7 (by decide) (by decide) (by decide) (by decide) rfl).mono ?_
  rintro e w4 ⟨rfl, rfl⟩
  go_wp2_with fail
  go_ret
  exact ⟨rfl, (t1.trans' t2 (fun k hk e => by omega)).trans' t3 (fun k hk e => by omega)⟩

set_option maxHeartbeats 2000000 in
set_option maxRecDepth 100000 in
theorem framesApart_any (n f g k u a b : Int) (w : World) :
    Calls Try.prog 3 #[.int .i64 n, .int .i64 f, .int .i64 g, .int .i64 k, .int .i64 u, .int .i64 a, .int .i64 b] w fun e w' => e = .returned (.bool true) ∧ Turn (fun _ => False) w w' := by
  go_enter Try.func3, Try.ntmps3
  go_wp2_with fail
  refine (framed_any w).mono ?_
  rintro e w0 ⟨rfl, t0⟩
  go_wp2_with fail
  refine (pick_some n 60 w0 (by decide) (by decide)).mono ?_
  rintro e w0' ⟨N, hN0, hN1, rfl, rfl⟩
  go_wp2_with fail
  refine (new_yes (2 + N) w0 (by omega) (by omega)).mono ?_
  rintro e w1 ⟨mb, wb, rfl, hm, h1, h2, t1⟩
  have HM := hid hm
  clear hm
  go_wp2_with fail
  refine (pick_some f (2 + N) w1 (by omega) (by omega)).mono ?_
  rintro e w1' ⟨F, hF0, hF1, rfl, rfl⟩
  go_wp2_with fail
  refine (pick_some g (2 + N) w1 (by omega) (by omega)).mono ?_
  rintro e w1' ⟨G, hG0, hG1, rfl, rfl⟩
  go_wp2_with fail
  refine (pick_some k 8 w1 (by omega) (by omega)).mono ?_
  rintro e w1' ⟨K, hK0, hK1, rfl, rfl⟩
  go_wp2_with fail
  refine (pick_some u 8 w1 (by omega) (by omega)).mono ?_
  rintro e w1' ⟨U, hU0, hU1, rfl, rfl⟩
  go_wp2_with fail
  refine (set_yes HM.out F K a hF0 (by omega) hK0 hK1).mono ?_
  rintro e w2 ⟨rfl, hm2, t2⟩
  have HM2 := hid hm2
  clear hm2 HM
  go_wp2_with fail
  have Hsz : Hid (Turn (fun _ => False) w w2) := hid ((t0.trans t1).trans' t2 (fun j hj e => by have := t0.size; omega))
  have hwb : w.heap.size ≤ wb := by have := t0.size; omega
  clear t0 t1 t2
  go_loop [17] (fun i => ∃ j : Nat, (j : Int) ≤ 2 + N ∧ i = .int .i64 j) (fun i => (2 + N - intOf i).toNat)
  case atStart => exact ⟨0, by omega, rfl⟩
  case round =>
    obtain ⟨j, hj, rfl⟩ := hrel
    by_cases hlt : (j : Int) < 2 + N
    · go_wp2_with fail
      go_loop [18] (fun i => ∃ l : Nat, (l : Int) ≤ 8 ∧ i = .int .i64 l) (fun i => (8 - intOf i).toNat)
      case atStart => exact ⟨0, by omega, rfl⟩
      case round =>
        obtain ⟨l, hl, rfl⟩ := hrel
        by_cases hl8 : (l : Int) < 8
        · by_cases e1 : (j : Int) = F
          · by_cases e2 : (l : Int) = K
            · have hv : Hid (memSet (fun _ _ => 0) F.toNat K.toNat a (j : Int).toNat (l : Int).toNat = a) := hid (by rw [e1, e2]; simp [memSet])
              have b1 : ((j : Int) == F) = true := beq_iff_eq.2 e1
              have b2 : ((l : Int) == K) = true := beq_iff_eq.2 e2
              clear e1 e2
              go_wp2_with fail
              refine (get_val HM2.out j l a (by omega) (by omega) (by omega) (by omega) hv.out).mono ?_
              rintro e w3 ⟨rfl, rfl⟩
              go_wp2_with fail
              go_round
              case rel => exact ⟨l + 1, by omega, by go_num⟩
              case measure => simp [intOf]; omega
            · have hv : Hid (memSet (fun _ _ => 0) F.toNat K.toNat a (j : Int).toNat (l : Int).toNat = 0) := hid (by unfold memSet; rw [if_neg (by omega)])
              have b1 : ((j : Int) == F) = true := beq_iff_eq.2 e1
              have b2 : ((l : Int) == K) = false := beq_eq_false_iff_ne.2 e2
              clear e1 e2
              go_wp2_with fail
              refine (get_val HM2.out j l 0 (by omega) (by omega) (by omega) (by omega) hv.out).mono ?_
              rintro e w3 ⟨rfl, rfl⟩
              go_wp2_with fail
              go_round
              case rel => exact ⟨l + 1, by omega, by go_num⟩
              case measure => simp [intOf]; omega
          · have hv : Hid (memSet (fun _ _ => 0) F.toNat K.toNat a (j : Int).toNat (l : Int).toNat = 0) := hid (by unfold memSet; rw [if_neg (by omega)])
            have b1 : ((j : Int) == F) = false := beq_eq_false_iff_ne.2 e1
            clear e1
            go_wp2_with fail
            refine (get_val HM2.out j l 0 (by omega) (by omega) (by omega) (by omega) hv.out).mono ?_
            rintro e w3 ⟨rfl, rfl⟩
            go_wp2_with fail
            go_round
            case rel => exact ⟨l + 1, by omega, by go_num⟩
            case measure => simp [intOf]; omega
        · go_wp2_with fail
          go_round
          case rel => exact ⟨j + 1, by omega, by go_num⟩
          case measure => simp [intOf]; omega
    · go_wp2_with fail
      refine (copy_yes HM2.out G F (by omega) (by omega) (by omega) (by omega)).mono ?_
      rintro e w3 ⟨rfl, hm3, t3⟩
      have HM3 := hid hm3
      clear hm3 HM2
      go_wp2_with fail
      refine (set_yes HM3.out G U b (by omega) (by omega) (by omega) (by omega)).mono ?_
      rintro e w4 ⟨rfl, hm4, t4⟩
      have HM4 := hid hm4
      have Hs4 : Hid (Turn (fun _ => False) w w4) := hid ((Hsz.out.trans' t3 (fun j hj e => by omega)).trans' t4 (fun j hj e => by omega))
      clear hm4 HM3 Hsz t3 t4
      go_wp2_with fail
      go_loop [22] (fun i => ∃ l : Nat, (l : Int) ≤ 8 ∧ i = .int .i64 l) (fun i => (8 - intOf i).toNat)
      case atStart => exact ⟨0, by omega, rfl⟩
      case round =>
        obtain ⟨l, hl, rfl⟩ := hrel
        by_cases hl8 : (l : Int) < 8
        · by_cases eU : (l : Int) = U
          · by_cases eG : F = G
            · have hx : Hid ((memSet (memCopy (memSet (fun _ _ => 0) F.toNat K.toNat a) G.toNat F.toNat) G.toNat U.toNat b) F.toNat (l : Int).toNat = b) := hid (by clear HM4 Hs4; simp only [memSet, memCopy, true_and]; (repeat' split) <;> first | rfl | omega)
              have hy : Hid ((memSet (memCopy (memSet (fun _ _ => 0) F.toNat K.toNat a) G.toNat F.toNat) G.toNat U.toNat b) G.toNat (l : Int).toNat = b) := hid (by clear HM4 Hs4; simp only [memSet, memCopy, true_and]; (repeat' split) <;> first | rfl | omega)
              have b1 : ((l : Int) == U) = true := beq_iff_eq.2 eU
              have b1' : ((l : Int) != U) = false := by rw [eU]; simp
              have b2 : (F != G) = false := by rw [eG]; simp
              clear eU eG
              go_wp2_with fail
              refine (get_val HM4.out F l b (by omega) (by omega) (by omega) (by omega) hx.out).mono ?_
              rintro e w5 ⟨rfl, rfl⟩
              go_wp2_with fail
              refine (get_val HM4.out G l b (by omega) (by omega) (by omega) (by omega) hy.out).mono ?_
              rintro e w5 ⟨rfl, rfl⟩
              go_wp2_with fail
              go_round
              case rel => exact ⟨l + 1, by omega, by go_num⟩
              case measure => simp [intOf]; omega
            · by_cases eK : (l : Int) = K
              · have hx : Hid ((memSet (memCopy (memSet (fun _ _ => 0) F.toNat K.toNat a) G.toNat F.toNat) G.toNat U.toNat b) F.toNat (l : Int).toNat = a) := hid (by clear HM4 Hs4; simp only [memSet, memCopy, true_and]; (repeat' split) <;> first | rfl | omega)
                have hy : Hid ((memSet (memCopy (memSet (fun _ _ => 0) F.toNat K.toNat a) G.toNat F.toNat) G.toNat U.toNat b) G.toNat (l : Int).toNat = b) := hid (by clear HM4 Hs4; simp only [memSet, memCopy, true_and]; (repeat' split) <;> first | rfl | omega)
                have b1 : ((l : Int) == U) = true := beq_iff_eq.2 eU
                have b1' : ((l : Int) != U) = false := by rw [eU]; simp
                have b2 : (F != G) = true := bne_iff_ne.2 eG
                have b3 : ((l : Int) == K) = true := beq_iff_eq.2 eK
                clear eU eG eK
                go_wp2_with fail
                refine (get_val HM4.out F l a (by omega) (by omega) (by omega) (by omega) hx.out).mono ?_
                rintro e w5 ⟨rfl, rfl⟩
                go_wp2_with fail
                refine (get_val HM4.out G l b (by omega) (by omega) (by omega) (by omega) hy.out).mono ?_
                rintro e w5 ⟨rfl, rfl⟩
                go_wp2_with fail
                go_round
                case rel => exact ⟨l + 1, by omega, by go_num⟩
                case measure => simp [intOf]; omega
              · obtain ⟨X, hX⟩ : ∃ X, (memSet (memCopy (memSet (fun _ _ => 0) F.toNat K.toNat a) G.toNat F.toNat) G.toNat U.toNat b) F.toNat (l : Int).toNat = X := ⟨_, rfl⟩
                have hx := hid hX
                have hy : Hid ((memSet (memCopy (memSet (fun _ _ => 0) F.toNat K.toNat a) G.toNat F.toNat) G.toNat U.toNat b) G.toNat (l : Int).toNat = b) := hid (by clear HM4 Hs4; simp only [memSet, memCopy, true_and]; (repeat' split) <;> first | rfl | omega)
                have b1 : ((l : Int) == U) = true := beq_iff_eq.2 eU
                have b1' : ((l : Int) != U) = false := by rw [eU]; simp
                have b2 : (F != G) = true := bne_iff_ne.2 eG
                have b3 : ((l : Int) == K) = false := beq_eq_false_iff_ne.2 eK
                clear eU eG eK hX
                go_wp2_with fail
                refine (get_val HM4.out F l X (by omega) (by omega) (by omega) (by omega) hx.out).mono ?_
                rintro e w5 ⟨rfl, rfl⟩
                go_wp2_with fail
                refine (get_val HM4.out G l b (by omega) (by omega) (by omega) (by omega) hy.out).mono ?_
                rintro e w5 ⟨rfl, rfl⟩
                go_wp2_with fail
                go_round
                case rel => exact ⟨l + 1, by omega, by go_num⟩
                case measure => simp [intOf]; omega
          · by_cases eG : F = G
            · obtain ⟨X, hX⟩ : ∃ X, (memSet (memCopy (memSet (fun _ _ => 0) F.toNat K.toNat a) G.toNat F.toNat) G.toNat U.toNat b) F.toNat (l : Int).toNat = X := ⟨_, rfl⟩
              have hx := hid hX
              have hy : Hid ((memSet (memCopy (memSet (fun _ _ => 0) F.toNat K.toNat a) G.toNat F.toNat) G.toNat U.toNat b) G.toNat (l : Int).toNat = X) := hid (by rw [← hX]; clear HM4 Hs4; simp only [memSet, memCopy, true_and]; (repeat' split) <;> first | rfl | omega)
              have b1 : ((l : Int) == U) = false := beq_eq_false_iff_ne.2 eU
              have b1' : ((l : Int) != U) = true := bne_iff_ne.2 eU
              have b2 : (F != G) = false := by rw [eG]; simp
              clear eU eG hX
              go_wp2_with fail
              refine (get_val HM4.out F l X (by omega) (by omega) (by omega) (by omega) hx.out).mono ?_
              rintro e w5 ⟨rfl, rfl⟩
              go_wp2_with fail
              refine (get_val HM4.out G l X (by omega) (by omega) (by omega) (by omega) hy.out).mono ?_
              rintro e w5 ⟨rfl, rfl⟩
              go_wp2_with fail
              go_round
              case rel => exact ⟨l + 1, by omega, by go_num⟩
              case measure => simp [intOf]; omega
            · by_cases eK : (l : Int) = K
              · have hx : Hid ((memSet (memCopy (memSet (fun _ _ => 0) F.toNat K.toNat a) G.toNat F.toNat) G.toNat U.toNat b) F.toNat (l : Int).toNat = a) := hid (by clear HM4 Hs4; simp only [memSet, memCopy, true_and]; (repeat' split) <;> first | rfl | omega)
                have hy : Hid ((memSet (memCopy (memSet (fun _ _ => 0) F.toNat K.toNat a) G.toNat F.toNat) G.toNat U.toNat b) G.toNat (l : Int).toNat = a) := hid (by clear HM4 Hs4; simp only [memSet, memCopy, true_and]; (repeat' split) <;> first | rfl | omega)
                have b1 : ((l : Int) == U) = false := beq_eq_false_iff_ne.2 eU
                have b1' : ((l : Int) != U) = true := bne_iff_ne.2 eU
                have b2 : (F != G) = true := bne_iff_ne.2 eG
                have b3 : ((l : Int) == K) = true := beq_iff_eq.2 eK
                clear eU eG eK
                go_wp2_with fail
                refine (get_val HM4.out F l a (by omega) (by omega) (by omega) (by omega) hx.out).mono ?_
                rintro e w5 ⟨rfl, rfl⟩
                go_wp2_with fail
                refine (get_val HM4.out G l a (by omega) (by omega) (by omega) (by omega) hy.out).mono ?_
                rintro e w5 ⟨rfl, rfl⟩
                go_wp2_with fail
                go_round
                case rel => exact ⟨l + 1, by omega, by go_num⟩
                case measure => simp [intOf]; omega
              · obtain ⟨X, hX⟩ : ∃ X, (memSet (memCopy (memSet (fun _ _ => 0) F.toNat K.toNat a) G.toNat F.toNat) G.toNat U.toNat b) F.toNat (l : Int).toNat = X := ⟨_, rfl⟩
                have hx := hid hX
                have hy : Hid ((memSet (memCopy (memSet (fun _ _ => 0) F.toNat K.toNat a) G.toNat F.toNat) G.toNat U.toNat b) G.toNat (l : Int).toNat = X) := hid (by rw [← hX]; clear HM4 Hs4; simp only [memSet, memCopy, true_and]; (repeat' split) <;> first | rfl | omega)
                have b1 : ((l : Int) == U) = false := beq_eq_false_iff_ne.2 eU
                have b1' : ((l : Int) != U) = true := bne_iff_ne.2 eU
                have b2 : (F != G) = true := bne_iff_ne.2 eG
                have b3 : ((l : Int) == K) = false := beq_eq_false_iff_ne.2 eK
                clear eU eG eK hX
                go_wp2_with fail
                refine (get_val HM4.out F l X (by omega) (by omega) (by omega) (by omega) hx.out).mono ?_
                rintro e w5 ⟨rfl, rfl⟩
                go_wp2_with fail
                refine (get_val HM4.out G l X (by omega) (by omega) (by omega) (by omega) hy.out).mono ?_
                rintro e w5 ⟨rfl, rfl⟩
                go_wp2_with fail
                go_round
                case rel => exact ⟨l + 1, by omega, by go_num⟩
                case measure => simp [intOf]; omega
        · go_wp2_with fail
          refine (zero_yes HM4.out F (by omega) (by omega)).mono ?_
          rintro e w5 ⟨rfl, hm5, t5⟩
          have HM5 := hid hm5
          have Hs5 : Hid (Turn (fun _ => False) w w5) := hid (Hs4.out.trans' t5 (fun j hj e => by omega))
          clear hm5 HM4 Hs4 t5
          go_wp2_with fail
          refine (set_no HM5.out (2 + N) 0 1 (by omega)).mono ?_
          rintro e w6 ⟨rfl, rfl⟩
          go_wp2_with fail
          go_ret
          exact ⟨rfl, Hs5.out⟩

end Go.Proofs.Ytiohpmcedfbcgaa
