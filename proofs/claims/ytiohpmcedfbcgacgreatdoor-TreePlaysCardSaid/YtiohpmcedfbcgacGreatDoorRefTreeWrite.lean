/- The document's tree: Write. Conditions: each theorem's own premises. -/
import Derived.Test.YtiohpmcedfbcgacGreatDoorRefTreeRead
import Derived.Test.YtiohpmcedfbcgacGreatDoorBytesAt
namespace Go.Proofs.YtiohpmcedfbcgacGreatDoor
open Go.RowKit
set_option linter.unusedVariables false
section
variable {w w' w1 w2 w3 wa : World} {rb nm b d c dn : Nat} {T T1 T2 : PT} {B D : Int → Nat} {F : Nat → Prop} {p p' q nn : PN} {n k : Int} {s : ByteArray}
theorem zerosB_list (k : Nat) : (zerosB k).data.toList = List.replicate k 0 := by
  unfold zerosB
  show (Go.Lib.repeatL [0] k).toArray.toList = _
  rw [List.toList_toArray]
  induction k with
  | zero => rfl
  | succ k ih => show [0] ++ Go.Lib.repeatL [0] k = _; rw [ih]; rfl
theorem ext_list (x : ByteArray) (a b : Nat) : (x.extract a b).data.toList = (x.data.toList.take b).drop a := by
  rw [ByteArray.data_extract, Array.toList_extract, List.extract_eq_take_drop, ← List.drop_take]
theorem app_list (x y : ByteArray) : (x ++ y).data.toList = x.data.toList ++ y.data.toList := by
  rw [ByteArray.data_append, Array.toList_append]
theorem ba_ext2 {a b : ByteArray} (h : a.data.toList = b.data.toList) : a = b := ByteArray.ext (Array.toList_inj.1 h)
theorem len_list (x : ByteArray) : x.data.toList.length = x.size := by simp
/-- What the loop and the copy make is what is written. -/
theorem writeB_list (d s : ByteArray) (a k : Nat) (l : List UInt8) (hl : l = d.data.toList ++ List.replicate k 0) (hk : d.size + k = max d.size (a + s.size)) (hs : s.size ≠ 0) :
    l.take a ++ s.data.toList ++ l.drop (a + s.size) = (writeB d a s).data.toList := by
  have hd := len_list d
  unfold writeB putB
  rw [app_list, app_list, ext_list, ext_list, padB_size, List.drop_zero]
  by_cases h1 : d.size < a
  · have hp : (padB d a).data.toList = d.data.toList ++ List.replicate (a - d.size) 0 := by
      unfold padB; rw [if_pos h1, app_list, zerosB_list]
    rw [hp, hl]
    have e1 : (d.data.toList ++ List.replicate k 0).drop (a + s.size) = [] := List.drop_eq_nil_of_le (by rw [List.length_append, List.length_replicate]; omega)
    have e2 : ((d.data.toList ++ List.replicate (a - d.size) 0).take (max d.size a)).drop (min (a + s.size) (max d.size a)) = [] := List.drop_eq_nil_of_le (by rw [List.length_take, List.length_append, List.length_replicate]; omega)
    rw [e1, e2]
    congr 2
    rw [List.take_append, List.take_append, hd, List.take_replicate, List.take_replicate]
    congr 2; omega
  · have hp : padB d a = d := if_neg h1
    rw [hp, hl]
    have e1 : (d.data.toList ++ List.replicate k 0).take a = d.data.toList.take a := List.take_append_of_le_length (by omega)
    rw [e1]
    congr 1
    have e3 : max d.size a = d.size := by omega
    rw [e3, List.take_of_length_le (by omega)]
    by_cases h2 : d.size < a + s.size
    · rw [List.drop_eq_nil_of_le (by rw [List.length_append, List.length_replicate]; omega), List.drop_eq_nil_of_le (by omega)]
    · obtain rfl : k = 0 := by omega
      rw [List.replicate_zero, List.append_nil, show min (a + s.size) d.size = a + s.size by omega]
set_option maxHeartbeats 4000000 in
set_option maxRecDepth 100000 in
theorem rwrite_is (h : RTreeIn w rb nm T D) (hok : TOk T) (n at' : Int) (s : ByteArray) (hss : s.size ≤ 4294967281) :
    Calls Tryz.prog 109 #[.pointer (some ⟨rb, 0, none⟩), .int .i64 n, .int .i64 at', .string s] w fun e w' => e = .returned (.int .i64 (writeE T n at' s)) ∧ RTreeTo rb (RFoot rb nm T D) w w' (writeT T n at' s) := by
  have H := hid h
  have HOk := hid hok
  have HF := hid (rfile_is h n)
  have HSame : Hid (writeT T n at' s = T → ∀ w', Turn (fun _ => False) w w' → RTreeTo rb (RFoot rb nm T D) w w' (writeT T n at' s)) := hid (fun hz w' tt => by
    rw [hz]
    exact RTreeTo.same ⟨nm, D, H.out, rfl⟩ tt)
  clear h hok
  go_enter Tryz.func109, Tryz.ntmps109
  go_wp2_with fail
  refine HF.out.mono ?_
  rintro e w1 ⟨rfl, t1⟩
  have HT1 := hid t1
  by_cases hz : fileE T n = 0
  · obtain ⟨p, hn, hd⟩ := fileE_zero hz
    have h1 := H.out.turned t1 (fun _ _ => id)
    have hh := h1.hdr
    have H1 := hid h1
    have lk := h1.look hn
    rw [hd] at lk
    simp only [Bool.false_eq_true, if_false] at lk
    have hdt : dataT T n = p.data := by unfold dataT; rw [hn]; rfl
    have hsz := HOk.out.data n p hn
    have h00 : ¬ (fileE T n ≠ 0) := fun e => e hz
    have HN := hid hn
    have HD := hid hd
    rw [hz]
    clear hn hd hz h1 t1
    by_cases ha : at' < 0
    · have hE : writeE T n at' s = 2 := by unfold writeE; rw [if_neg h00, if_pos ha]
      have HR := hid (HSame.out (if_neg (fun e => by rw [hE] at e; cases e.1)) w1 HT1.out)
      have HE := hid hE
      clear h00 hdt hss hE
      go_wp2_with fail
      go_returns
      rw [HE.out]
      exact ⟨rfl, HR.out⟩
    · obtain ⟨a, rfl⟩ : ∃ a : Nat, at' = a := ⟨at'.toNat, by omega⟩
      by_cases hl : 200 < s.size
      · have hE : writeE T n a s = 4 := by unfold writeE; rw [if_neg h00, if_neg ha, if_pos (.inl hl)]
        have HR := hid (HSame.out (if_neg (fun e => by rw [hE] at e; cases e.1)) w1 HT1.out)
        have hl' : (200 : Int) < s.size := by omega
        have HE := hid hE
        clear h00 hdt hss hE
        go_wp2_with fail
        go_returns
        rw [HE.out]
        exact ⟨rfl, HR.out⟩
      · have hl' : ¬ (200 : Int) < s.size := by omega
        have hw0 : wrap64 (200 - (s.size : Int)) = 200 - s.size := IntWalk.wrap64_in _ (by omega)
        by_cases hl2 : 200 - (s.size : Int) < a
        · have hE : writeE T n a s = 4 := by unfold writeE; rw [if_neg h00, if_neg ha, if_pos (.inr hl2)]
          have HR := hid (HSame.out (if_neg (fun e => by rw [hE] at e; cases e.1)) w1 HT1.out)
          have HE := hid hE
          clear h00 hdt hss hE
          go_wp2_with fail
          go_returns
          rw [HE.out]
          exact ⟨rfl, HR.out⟩
        · have hE : writeE T n a s = 0 := by unfold writeE; rw [if_neg h00, if_neg ha, if_neg (fun e => e.elim hl hl2)]
          by_cases h0 : s.size = 0
          · have HR := hid (HSame.out (if_neg (fun e => e.2 h0)) w1 HT1.out)
            have he : s.toList.isEmpty = true := by rw [toList_empty]; exact decide_eq_true h0
            have HE := hid hE
            clear h00 hdt hss hE
            go_wp2_with fail
            go_returns
            rw [HE.out]
            exact ⟨rfl, HR.out⟩
          · have he : s.toList.isEmpty = false := by rw [toList_empty]; exact decide_eq_false h0
            have hT : writeT T n a s = mput T n { p with data := writeB p.data a s } := by
              unfold writeT
              rw [if_pos ⟨hE, h0⟩, hdt, setDataT_is HN.out]; rfl
            obtain ⟨x, hx⟩ : ∃ x, p.data = x := ⟨_, rfl⟩
            rw [hx] at lk hsz hT
            obtain ⟨k, hk⟩ : ∃ k, x.size + k = max x.size (a + s.size) := ⟨max x.size (a + s.size) - x.size, by omega⟩
            obtain ⟨W, hW⟩ : ∃ W, w1.alloc (.cells #[.map none, .bool false, .string x, .int .i64 (p.held : Int)] 179) = W := ⟨_, rfl⟩
            have tW : Turn (fun _ => False) w1 W := by rw [← hW]; exact (Turn.refl _ _).alloc _
            have hsW : W.heap.size = w1.heap.size + 1 := by rw [← hW]; simp
            have hcW : ∀ j v, #[Value.map none, .bool false, .string x, .int .i64 (p.held : Int)][j]? = some v → W.cell? ⟨w1.heap.size, j, none⟩ = some v := fun j v hj => by rw [← hW, World.cell?_alloc_mark]; exact hj
            obtain ⟨c0, w2, hcv, hB2, t2, hs2⟩ := bytes_of_string (P := Tryz.prog) W 9 58 5 x Tryz.underlying9 Tryz.underlying58 Tryz.underlying5
            obtain ⟨G, hG⟩ : ∃ G, W.heap.size = G := ⟨_, rfl⟩
            rw [hG] at hcv hB2 hs2 hsW
            have HG := hid hG
            have HB2 := hid hB2
            have HT2 := hid t2
            have HS2 := hid hs2
            have HTW := hid tW
            have HSW := hid hsW
            have HCW := hid hcW
            have HT := hid hT
            have HE := hid hE
            have HK := hid hk
            have hsum : wrap64 ((a : Int) + s.size) = ((a + s.size : Nat) : Int) := by rw [IntWalk.wrap64_in _ (by omega)]; omega
            have hlx : x.data.toList.length = x.size := len_list x
            have HLx := hid hlx
            have Hsum := hid hsum
            rw [← hW] at hcv
            have HW := hid hW
            clear h00 hdt hE hT hB2 t2 hs2 tW hsW hcW hx hk hG hlx hsum hW
            go_wp2_with fail
            have e0 : ((x.size : Nat)) = x.data.toList.length := HLx.out.symm
            rw [e0]
            clear e0
            go_loopg [11] (k) (fun gl v wr => ∃ (g cap : Nat) (l : List UInt8) (i : Nat), v = .slice (some ⟨g, 0, none⟩) l.length cap ∧ Hid (BytesAt wr g cap l) ∧ Hid (l = x.data.toList ++ List.replicate i 0) ∧ i + gl = k ∧ Hid (G ≤ g) ∧ Hid (Turn (fun _ => False) W wr))
            case atStart => exact ⟨G, c0, x.data.toList, 0, rfl, HB2, hid (by simp), by omega, hid (Nat.le_refl _), HT2⟩
            case round =>
              obtain ⟨g, cap, l, i, rfl, hB, hL, hik, hg, hT⟩ := hrel
              have hll : l.length = x.size + i := by rw [hL.out, List.length_append, List.length_replicate, HLx.out]
              have HLl := hid hll
              by_cases hlt : i < k
              · have hlt' : (l.length : Int) < ((a + s.size : Nat) : Int) := by have := HK.out; omega
                have HB1 : Hid (BytesAt (wr.alloc (.cells #[.int .u8 0] 5)) g cap l) := hid (hB.out.turned ((Turn.refl (fun _ => False) _).alloc _) id)
                have HC1 : Hid ((wr.alloc (.cells #[.int .u8 0] 5)).cell? ⟨wr.heap.size, 0, none⟩ = some (byteV 0)) := hid (by simp; rfl)
                have hl9 : l.length ≤ 1000000 := by have := HK.out; omega
                have hs1 := Hsum.out
                clear hll
                go_wp2_with (at_builtin; refine wpList_append_byte (z := .int .u8 0) (bytes := 1) rfl _ _ rfl Tryz.underlying58 (by kernel_rfl) rfl (by decide) g cap l rfl HB1.out wr.heap.size 1 0 rfl HC1.out hl9 ?_; intro g3 z3 w3 hi3 t3 ho3; have HI3 := hid hi3; have HT3 := hid t3; have HO3 := hid ho3; clear hi3 t3 ho3)
                go_roundg (gk - 1)
                case measure => omega
                case rel =>
                  refine ⟨g3, z3, l ++ [0], i + 1, by rw [List.length_append]; rfl, HI3, hid ?_, by omega, hid ?_, hid ?_⟩
                  · rw [hL.out, List.append_assoc, List.replicate_succ']
                  · rcases HO3.out with h | h
                    · rw [h]; exact hg.out
                    · rw [World.size_alloc] at h
                      have := hT.out.size
                      have := HG.out
                      omega
                  · exact (hT.out.alloc _).trans' HT3.out (fun j hj e => by have := hg.out; have := HG.out; omega)
              · have hlt' : ¬ (l.length : Int) < ((a + s.size : Nat) : Int) := by have := HK.out; omega
                have hik' : i = k := by omega
                have hfit : a + s.size ≤ l.length := by omega
                have hacap : a + s.size ≤ cap := Nat.le_trans hfit hB.out.le
                have hcpy := run_copy_string (P := Tryz.prog) wr 58 9 3 5 Tryz.underlying58 (by kernel_rfl) a (l.length - a) (cap - a) s (by omega) hB.out hfit
                have hB4 := hB.out.copied a s hfit
                have t4 : Turn (fun _ => False) W (wr.setCells g a (byteCells s)) := hT.out.setCells _ _ _ (fun e => by have := hg.out; have := HG.out; omega)
                obtain ⟨w4, hw4⟩ : ∃ w4, wr.setCells g a (byteCells s) = w4 := ⟨_, rfl⟩
                rw [hw4] at hcpy hB4 t4
                have hlen4 : (l.take a ++ s.data.toList ++ l.drop (a + s.size)).length = l.length := by
                  have h9 : s.data.toList.length = s.size := by simp
                  rw [List.length_append, List.length_append, List.length_take, List.length_drop, h9]; omega
                have hbk := bytes_back (P := Tryz.prog) hB4 58 9 5 cap Tryz.underlying58 Tryz.underlying5 Tryz.underlying9
                have hY : (⟨(l.take a ++ s.data.toList ++ l.drop (a + s.size)).toArray⟩ : ByteArray) = writeB x a s := by
                  refine ba_ext2 ?_
                  rw [List.toList_toArray]
                  exact writeB_list x s a i l hL.out (by rw [hik']; exact HK.out) h0
                rw [hlen4, hY] at hbk
                obtain ⟨Y, hYe⟩ : ∃ Y, writeB x a s = Y := ⟨_, rfl⟩
                rw [hYe] at hbk
                have hc4 : ∀ j v, #[Value.map none, .bool false, .string x, .int .i64 (p.held : Int)][j]? = some v → w4.cell? ⟨w1.heap.size, j, none⟩ = some v := fun j v hj => (t4.cell (a := ⟨w1.heap.size, j, none⟩) (by have := HSW.out; have := HG.out; show w1.heap.size < _; omega) id).trans (HCW.out j v hj)
                have q0 : w4.cell? ⟨w1.heap.size, 0, none⟩ = some (.map none) := hc4 0 _ rfl
                have q1 : w4.cell? ⟨w1.heap.size, 1, none⟩ = some (.bool false) := hc4 1 _ rfl
                have q2 : w4.cell? ⟨w1.heap.size, 2, none⟩ = some (.string x) := hc4 2 _ rfl
                have q3 : w4.cell? ⟨w1.heap.size, 3, none⟩ = some (.int .i64 (p.held : Int)) := hc4 3 _ rfl
                have f4 : ∀ j, w4.frozen? ⟨w1.heap.size, j, none⟩ = false := fun j => by
                  rw [t4.frozen (a := ⟨w1.heap.size, j, none⟩) (by have := HSW.out; have := HG.out; show w1.heap.size < _; omega) id, ← HW.out]
                  exact World.frozen?_alloc_new _ _ _ _
                have f42 := f4 2
                have HB4 := hid hB4
                have HT4 := hid t4
                have HYe := hid hYe
                have hs1 := Hsum.out
                have hcp := hcpy
                clear hcpy
                have ha9 : a < l.length := Nat.lt_of_lt_of_le (Nat.lt_add_of_pos_right (Nat.pos_of_ne_zero h0)) hfit
                have ha8 : (a : Int) ≤ l.length := Int.ofNat_le.2 (Nat.le_of_lt ha9)
                have hac : a < cap := Nat.lt_of_lt_of_le (Nat.lt_add_of_pos_right (Nat.pos_of_ne_zero h0)) hacap
                have hal : (l.length : Int) ≤ cap := Int.ofNat_le.2 hB.out.le
                clear hB4 hll hw4 hlen4 hY hc4 f4 t4 hYe
                obtain ⟨w5, hw5⟩ : ∃ w5, w4.setCell ⟨w1.heap.size, 2, none⟩ (.string Y) = w5 := ⟨_, rfl⟩
                have t5 : Turn (fun _ => False) w1 w5 := by
                  rw [← hw5]
                  exact (HTW.out.trans HT4.out).setCell _ _ (fun e => absurd e (Nat.lt_irrefl _))
                obtain ⟨w6, hrun, hin6, t6, hf6⟩ := rstore_fin H1.out HN.out HD.out { p with data := Y } HD.out rfl t5.drew
                have hto : RTreeTo rb (RFoot rb nm T D) w w6 (writeT T n a s) := by
                  rw [HT.out, HYe.out]
                  exact ⟨_, ⟨nm, D, hin6, rfl⟩, (HT1.out.mono (fun _ _ h => h.elim)).trans t6, fun j hj => .inl (hf6 j hj), fun v hv => hin6.hdr.trans (H.out.hdr.symm.trans hv)⟩
                have HTo := hid hto
                have h5 := (H1.out.turned t5 (fun _ _ => id)).hdr
                simp only at hrun
                rw [← hw5] at hrun h5
                clear hl hl2 hl' ha hsz hlt hik hik' hfit hacap h0 hw5 t5 hin6 t6 hf6 hto
                go_upto_region 16 with fail
                clear lk hcv hbk hcp
                go_region
                all_goals go_wp2_with fail
                all_goals go_returns
                all_goals rw [HE.out]
                all_goals exact ⟨rfl, HTo.out⟩
  · have hE : writeE T n at' s = fileE T n := if_pos hz
    have HR := hid (HSame.out (if_neg (fun e => by rw [hE] at e; exact hz e.1)) w1 t1)
    have hzn : (fileE T n != 0) = true := by simpa using hz
    have HE := hid hE
    generalize fileE T n = zz at *
    clear hz hE t1
    go_wp2_with fail
    go_returns
    rw [HE.out]
    exact ⟨rfl, HR.out⟩
end
end Go.Proofs.YtiohpmcedfbcgacGreatDoor
