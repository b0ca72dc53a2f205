/- TreePieces walked: true, and nothing that was there turns. Conditions: errors.errorType is laid; the argument lies in memory. -/
import Derived.Test.YtiohpmcedfbcgacGreatDoorTreeFlat
import Derived.Test.YtiohpmcedfbcgacGreatDoorTreeNamed
import Derived.Test.YtiohpmcedfbcgacGreatDoorTreeLawCut
import Derived.Test.YtiohpmcedfbcgacGreatDoorPick
import Derived.Test.YtiohpmcedfbcgacGreatDoorTell
namespace Go.Proofs.YtiohpmcedfbcgacGreatDoor
open Go.RowKit
set_option linter.unusedVariables false

def pA : ByteArray := ⟨#[47, 97]⟩
def pB : ByteArray := ⟨#[47, 98]⟩
def nA : ByteArray := ⟨#[97]⟩
def nB : ByteArray := ⟨#[98]⟩
/-- The directory of all, and two files in it. -/
def TP (x y : ByteArray) : PT := [(0, ⟨true, [(nA, 1), (nB, 2)], ByteArray.empty, 1, 0⟩), (1, ⟨false, [], x, 1, 0⟩), (2, ⟨false, [], y, 1, 0⟩)]
def TP1 : PT := [(0, ⟨true, [(nA, 1)], ByteArray.empty, 1, 0⟩), (1, ⟨false, [], ByteArray.empty, 1, 0⟩)]
theorem pieces1 : makeE rootT pA = 0 ∧ makeK rootT pA = 1 ∧ makeT rootT pA false = TP1 := ⟨by kernel_rfl, by kernel_rfl, by kernel_rfl⟩
theorem pieces2 : makeE TP1 pB = 0 ∧ makeK TP1 pB = 2 ∧ makeT TP1 pB false = TP ByteArray.empty ByteArray.empty := ⟨by kernel_rfl, by kernel_rfl, by kernel_rfl⟩
section
variable {x y s : ByteArray}
theorem tp_file1 : fileE (TP x y) 1 = 0 := rfl
theorem tp_file2 : fileE (TP x y) 2 = 0 := rfl
theorem tp_write1 {a : Nat} (h : a + s.size ≤ 200) : writeE (TP x y) 1 a s = 0 ∧ writeT (TP x y) 1 a s = TP (if s.size = 0 then x else writeB x a s) y := by
  have hE : writeE (TP x y) 1 a s = 0 := by
    unfold writeE
    rw [if_neg (by simp [tp_file1]), if_neg (by omega), if_neg (by omega)]
  refine ⟨hE, ?_⟩
  unfold writeT
  by_cases e : s.size = 0
  · rw [if_pos e, if_neg (fun h => h.2 e)]
  · rw [if_neg e, if_pos ⟨hE, e⟩]; rfl
theorem tp_write2 (h : s.size ≤ 200) : writeE (TP x y) 2 0 s = 0 ∧ writeT (TP x y) 2 0 s = TP x (if s.size = 0 then y else writeB y 0 s) := by
  have hE : writeE (TP x y) 2 0 s = 0 := by
    unfold writeE
    rw [if_neg (by simp [tp_file2]), if_neg (by omega), if_neg (by omega)]
  refine ⟨hE, ?_⟩
  unfold writeT
  by_cases e : s.size = 0
  · rw [if_pos e, if_neg (fun h => h.2 e)]
  · rw [if_neg e, if_pos ⟨hE, e⟩]; rfl
theorem tp_over {a : Nat} (hs : s.size ≤ 60) (h : 200 < a + s.size) : writeE (TP x y) 1 a s = 4 ∧ writeT (TP x y) 1 a s = TP x y := by
  have hE : writeE (TP x y) 1 a s = 4 := by
    unfold writeE
    rw [if_neg (by simp [tp_file1]), if_neg (by omega), if_pos (by omega)]
  exact ⟨hE, if_neg (fun e => by rw [hE] at e; cases e.1)⟩
theorem tp_read1 {a m : Nat} : readE (TP x y) 1 a m = 0 ∧ readT (TP x y) 1 a m = readB x a m := by
  have hE : readE (TP x y) 1 a m = 0 := by
    unfold readE
    rw [if_neg (by simp [tp_file1]), if_neg (by omega)]
  refine ⟨hE, ?_⟩
  unfold readT
  rw [if_pos hE]
  rfl
theorem tp_read2 {a m : Nat} : readE (TP x y) 2 a m = 0 ∧ readT (TP x y) 2 a m = readB y a m := by
  have hE : readE (TP x y) 2 a m = 0 := by
    unfold readE
    rw [if_neg (by simp [tp_file2]), if_neg (by omega)]
  refine ⟨hE, ?_⟩
  unfold readT
  rw [if_pos hE]
  rfl
theorem tp_cut {m : Nat} : cutE (TP x y) 1 m = 0 ∧ cutT (TP x y) 1 m = TP (x.extract 0 (min m x.size)) y := by
  have hE : cutE (TP x y) 1 m = 0 := by
    unfold cutE
    rw [if_neg (by simp [tp_file1]), if_neg (by omega)]
  refine ⟨hE, ?_⟩
  unfold cutT
  rw [if_pos hE]
  rfl
theorem extract_all (x : ByteArray) : x.extract 0 x.size = x := by
  apply ba_ext
  rw [Go.Lib.extract_data, List.drop_zero, Nat.sub_zero]
  exact List.take_of_length_le (by rw [← Go.Lib.size_eq]; omega)
theorem writeB_end (x s : ByteArray) : writeB x x.size s = x ++ s := by
  have hp : padB x x.size = x := if_neg (Nat.lt_irrefl _)
  unfold writeB putB
  rw [hp, Nat.min_eq_right (by omega), extract_all]
  apply ba_ext
  rw [app_data, app_data, Go.Lib.extract_data, Nat.sub_self, List.take_zero, List.append_nil]
theorem writeB_zero (s : ByteArray) : writeB ByteArray.empty 0 s = s := by
  rw [writeB_empty]
  apply ba_ext
  rw [app_data]; rfl
theorem read_on (x : ByteArray) (a m : Nat) : x.extract 0 (min a x.size) ++ readB x a m = x.extract 0 (min (a + m) x.size) := by
  apply ba_ext
  unfold readB
  rw [app_data, Go.Lib.extract_data, Go.Lib.extract_data, Go.Lib.extract_data, List.drop_zero, Nat.sub_zero, Nat.sub_zero, Nat.add_sub_cancel_left]
  have e : min (a + m) x.size = min a x.size + min m (x.size - min a x.size) := by omega
  rw [e, List.take_add]
theorem readB_size_le (x : ByteArray) (a m : Nat) : (readB x a m).size ≤ m ∧ (readB x a m).size ≤ x.size := by
  unfold readB
  rw [extract_size _ _ _ (by omega)]
  omega
theorem front_le (x : ByteArray) (n : Nat) (h : x.size ≤ 200) : (x.extract 0 (min n x.size)).size ≤ 200 := by
  rw [extract_size _ _ _ (Nat.min_le_right _ _), Nat.sub_zero]
  exact Nat.le_trans (Nat.min_le_right _ _) h
theorem readB_whole (x : ByteArray) (h : x.size ≤ 200) : readB x 0 200 = x := by
  unfold readB
  rw [Nat.zero_min, Nat.sub_zero, Nat.zero_add, Nat.min_eq_right h, extract_all]
end
/-- The texts lie in memory. -/
def PiecesAt (W : World) (a : Option Addr) (l : List ByteArray) : Prop := StrsIn W a l
set_option maxRecDepth 100000 in
theorem treePieces_long (a : Option Addr) (n cap : Nat) (z1 z2 : Int) (w : World) (hn : n ≤ maxLen) (h : 20 < n) :
    Calls Tryz.prog 4 #[.slice a n cap, .int .i64 z1, .int .i64 z2] w fun e w' => e = .returned (.bool true) ∧ Turn (fun _ => False) w w' := by
  have hm : maxLen = 9223372036854775807 := rfl
  have h1' : (20 : Int) < n := by omega
  clear h
  go_enter Tryz.func4, Tryz.ntmps4
  go_wp2_with fail
  go_returns
  exact ⟨rfl, Turn.refl _ _⟩
set_option maxHeartbeats 8000000 in
set_option maxRecDepth 100000 in
theorem treePieces_is (a : Option Addr) (l : List ByteArray) (cap : Nat) (z1 z2 : Int) (W : World) (hL : Laid W) (hl : l.length ≤ 20) (hlz : ∀ s ∈ l, s.size ≤ maxLen) (hc : StrsIn W a l) :
    Calls Tryz.prog 4 #[.slice a l.length cap, .int .i64 z1, .int .i64 z2] W fun e w' => e = .returned (.bool true) ∧ Turn (fun _ => False) W w' := by
  have h1' : ¬ (20 : Int) < l.length := by omega
  have te : TErr 0 = .nilIface := rfl
  have HC := hid hc
  have HL := hid hL
  have HLz := hid hlz
  clear hc hL hlz
  go_enter Tryz.func4, Tryz.ntmps4
  go_wp2_with fail
  refine (named_is W).mono ?_
  rintro e w0 ⟨rfl, t0⟩
  have HT0 := hid t0
  clear t0
  go_wp2_with fail
  refine (law_new w0).mono ?_
  rintro e w1 ⟨tb, rfl, h1⟩
  have HC1 := hid (law_create h1 pA (by decide))
  clear h1
  go_wp2_with fail
  refine HC1.out.mono ?_
  rintro e w2 ⟨rfl, h2⟩
  rw [pieces1.1, pieces1.2.1]
  rw [pieces1.2.2] at h2
  have HC2 := hid (law_create h2 pB (by decide))
  clear h2 HC1
  go_wp2_with fail
  refine HC2.out.mono ?_
  rintro e w3 ⟨rfl, h3⟩
  rw [pieces2.1, pieces2.2.1]
  rw [pieces2.2.2] at h3
  have H3 := hid h3
  clear h3 HC2
  go_upto_block 0 with fail
  go_cut [12] (fun v wx => ∃ X : ByteArray, v = .string X ∧ X.size ≤ 200 ∧ Hid (TreeLaw w0 wx tb (TP X ByteArray.empty)))
  case first =>
    as_aux_lemma =>
      go_wp2_with fail
      go_loopg [12, 13] l.length (fun gl v i wr => ∃ (k : Nat) (X : ByteArray), k + gl = l.length ∧ i = .int .i64 k ∧ v = .string X ∧ X.size ≤ 200 ∧ Hid (TreeLaw w0 wr tb (TP X ByteArray.empty)))
      case atStart => exact ⟨0, ByteArray.empty, by omega, rfl, rfl, Nat.zero_le _, H3⟩
      case round =>
        clear H3
        obtain ⟨k, X, hk, rfl, rfl, hX, hT⟩ := hrel
        by_cases hkl : k < l.length
        · have hkl' : (k : Int) < l.length := by omega
          obtain ⟨s, hs⟩ : ∃ s, l[k]? = some s := ⟨_, List.getElem?_eq_getElem hkl⟩
          obtain ⟨g, off, rfl, _, hcs⟩ := (HC.out.turned (HT0.out.trans hT.out.turn) (fun _ _ => id)).resolve_left (by rintro rfl; simp at hkl)
          have cs := hcs k s hs
          clear hcs hs
          by_cases h60 : 60 < s.size
          · have h60' : (60 : Int) < s.size := by omega
            have HT := hid (HT0.out.trans hT.out.turn)
            go_wp2_with fail
            go_returns
            exact ⟨rfl, HT.out⟩
          · have h60' : ¬ (60 : Int) < s.size := by omega
            have hwr : wrap64 ((X.size : Int) + s.size) = X.size + s.size := IntWalk.wrap64_in _ (by omega)
            by_cases hov : 200 < X.size + s.size
            · have hov' : (200 : Int) < X.size + s.size := by omega
              obtain ⟨oE, oT⟩ := tp_over (x := X) (y := ByteArray.empty) (s := s) (a := X.size) (by omega) hov
              have hW := law_write hT.out 1 X.size s (by omega)
              rw [oE, oT] at hW
              have HW := hid hW
              clear hW oE oT hov
              go_wp2_with fail
              refine HW.out.mono ?_
              rintro e w5 ⟨rfl, h5⟩
              have HTe := hid (tell_errno 4 w5 (HL.out.turned0 (HT0.out.trans h5.turn)))
              have H5 := hid h5
              have te4 : TErr 4 = .iface 45 (.int .i64 4) := rfl
              clear h5
              go_wp2_with fail
              refine HTe.out.mono ?_
              rintro e w6 ⟨rfl, t6⟩
              have H6 := hid (H5.out.still t6)
              clear t6
              go_wp2_with fail
              go_meet
              exact ⟨X, rfl, hX, H6⟩
            · have hov' : ¬ (200 : Int) < X.size + s.size := by omega
              obtain ⟨oE, oT⟩ := tp_write1 (x := X) (y := ByteArray.empty) (s := s) (a := X.size) (by omega)
              have hW := law_write hT.out 1 X.size s (by omega)
              have hX2 : (if s.size = 0 then X else writeB X X.size s) = X ++ s := by
                by_cases e : s.size = 0
                · rw [if_pos e, empty_of_size e]
                  apply ba_ext
                  rw [app_data]
                  show _ = _ ++ []
                  rw [List.append_nil]
                · rw [if_neg e, writeB_end]
              rw [oE, oT, hX2] at hW
              have HW := hid hW
              have HC2 := hid (fun (w' : World) (t : Turn (fun _ => False) wr w') => (t.cell (a := ⟨g, off + k, none⟩) (lt_of_cell cs) id).trans cs)
              clear hW oE oT hX2
              go_wp2_with fail
              refine HW.out.mono ?_
              rintro e w5 ⟨rfl, h5⟩
              have H5 := hid h5
              have cs5 : w5.cell? ⟨g, off + k, none⟩ = some (.string s) := by
                rcases (HC.out.turned (HT0.out.trans h5.turn) (fun _ _ => id)) with h | ⟨g', off', e, _, hcs⟩
                · rw [h] at hkl; simp at hkl
                · cases e
                  obtain ⟨s', hs'⟩ : ∃ s', l[k]? = some s' := ⟨_, List.getElem?_eq_getElem hkl⟩
                  have h7 := hcs k s' hs'
                  rcases (HC.out.turned (HT0.out.trans hT.out.turn) (fun _ _ => id)) with h | ⟨g', off', e, _, hcs2⟩
                  · rw [h] at hkl; simp at hkl
                  · cases e
                    have h8 := hcs2 k s' hs'
                    rw [cs] at h8
                    cases h8
                    exact h7
              have hsum : X.size + s.size ≤ 200 := by omega
              clear h5 HC2 HW cs
              go_wp2_with fail
              go_roundg (gk - 1)
              case measure => omega
              case rel => exact ⟨k + 1, X ++ s, by omega, by go_num, rfl, by rw [append_size]; exact hsum, H5⟩
        · have hkl' : ¬ (k : Int) < l.length := by omega
          go_wp2_with fail
          go_meet
          exact ⟨X, rfl, hX, hT⟩
  case rest =>
    obtain ⟨X, rfl, hX, hT⟩ := hcut
    obtain ⟨oE, oT⟩ := tp_write2 (x := X) (y := ByteArray.empty) (s := X) hX
    have hX2 : (if X.size = 0 then ByteArray.empty else writeB ByteArray.empty 0 X) = X := by
      by_cases e : X.size = 0
      · rw [if_pos e, empty_of_size e]
      · rw [if_neg e, writeB_zero]
    have hW := law_write hT.out 2 0 X (by omega)
    rw [oE, oT, hX2] at hW
    have HW := hid hW
    clear hW oE oT hX2 H3
    go_wp2_with fail
    refine HW.out.mono ?_
    rintro e w5 ⟨rfl, h5⟩
    have H5 := hid h5
    clear h5 HW
    go_wp2_with fail
    refine (pick_some z1 20 w5 (by omega) (by omega)).mono ?_
    rintro e w6 ⟨k0, hk0, hk1, rfl, hw⟩; subst w6
    obtain ⟨M, hM, hM1, hM20⟩ : ∃ M : Nat, (1 : Int) + k0 = M ∧ 1 ≤ M ∧ M ≤ 20 := ⟨(1 + k0).toNat, by omega, by omega, by omega⟩
    have hwM : wrap64 (1 + k0) = M := by rw [IntWalk.wrap64_in _ (by omega)]; exact hM
    have hwM2 : (1 : Int) + k0 = M := hM
    clear hM hk0 hk1
    go_wp2_with fail
    have hY0 : (⟨#[]⟩ : ByteArray) = X.extract 0 (min (0 * M) X.size) := by
      have h0 : (X.extract 0 (min (0 * M) X.size)).size = 0 := by rw [extract_size _ _ _ (by omega)]; omega
      exact (empty_of_size h0).symm
    have HY0 := hid hY0
    clear hY0
    go_loopg [14, 15, 16] (X.size + 1 + M) (fun gl vx vy i wr => ∃ (k : Nat) (Y : ByteArray), i = .int .i64 k ∧ X.size + 1 + M ≤ k + gl ∧ vx = .string Y ∧ vy = .string Y ∧ Hid (k * M ≤ X.size + 2 * M) ∧ Hid (Y = X.extract 0 (min (k * M) X.size)) ∧ Hid (TreeLaw w0 wr tb (TP X X)))
    case atStart => exact ⟨0, ⟨#[]⟩, rfl, by omega, rfl, rfl, hid (by omega), HY0, H5⟩
    case round =>
      clear H5 HY0 hT
      obtain ⟨k, Y, rfl, hgl, rfl, rfl, hPb, hY, hT⟩ := hrel
      obtain ⟨P, hP⟩ : ∃ P, k * M = P := ⟨_, rfl⟩
      have hkP : k ≤ P := by rw [← hP]; exact Nat.le_mul_of_pos_right k (by omega)
      have hPb2 : P ≤ X.size + 2 * M := by rw [← hP]; exact hPb.out
      have hmul : (k : Int) * (M : Int) = P := by rw [← hP, Int.natCast_mul]
      have hw1 : wrap64 ((k : Int) * M) = P := by rw [hmul, IntWalk.wrap64_in _ (by omega)]
      have hw2 : wrap64 ((X.size : Int) + M) = X.size + M := IntWalk.wrap64_in _ (by omega)
      have HP := hid hP
      have HMul := hid hmul
      have hYs : Y.size ≤ 200 := hY.out ▸ front_le X (k * M) hX
      clear hP hmul
      by_cases hlt : P < X.size + M
      · as_aux_lemma =>
          have hlt' : (P : Int) < X.size + M := by omega
          obtain ⟨r1, r2⟩ := tp_read1 (x := X) (y := X) (a := P) (m := M)
          obtain ⟨q1, q2⟩ := tp_read2 (x := X) (y := X) (a := P) (m := M)
          have hR1 := law_read hT.out 1 P M
          rw [r1, r2] at hR1
          have HR2 : Hid (∀ w', TreeLaw w0 w' tb (TP X X) → Calls Tryz.prog 29 #[.pointer (some ⟨tb, 0, none⟩), .int .i64 2, .int .i64 P, .int .i64 M] w' fun e w'' => e = .returned (.tuple #[.string (readB X P M), TErr 0]) ∧ TreeLaw w0 w'' tb (TP X X)) := hid (fun w' h => by
            have hR2 := law_read h 2 P M
            rw [q1, q2] at hR2
            exact hR2)
          obtain ⟨hsz1, hsz2⟩ := readB_size_le X P M
          have hon := read_on X P M
          obtain ⟨s, hs⟩ : ∃ s, readB X P M = s := ⟨_, rfl⟩
          rw [hs] at hR1 HR2 hsz1 hsz2 hon
          have HR1 := hid hR1
          have hsm : ¬ (M : Int) < s.size := by omega
          have hys : Y.size + s.size ≤ 1000 := by omega
          have HOn : Hid (Y ++ s = X.extract 0 (min ((k + 1) * M) X.size)) := hid (by
            rw [hY.out, HP.out, hon, Nat.succ_mul, HP.out])
          have HPn : Hid ((k + 1) * M ≤ X.size + 2 * M) := hid (by rw [Nat.succ_mul, HP.out]; omega)
          clear r1 r2 q1 q2 hR1 hon hs hsz1 hsz2
          go_wp2_with fail
          refine HR1.out.mono ?_
          rintro e w7 ⟨rfl, h7⟩
          have HR2b := hid (HR2.out w7 h7)
          clear h7 HR1 HR2
          go_wp2_with fail
          refine HR2b.out.mono ?_
          rintro e w8 ⟨rfl, h8⟩
          have H8 := hid h8
          clear h8 HR2b
          go_wp2_with fail
          go_roundg (gk - 1)
          case measure => omega
          case rel => exact ⟨k + 1, Y ++ s, by go_num, by omega, rfl, rfl, HPn, HOn, H8⟩
      · as_aux_lemma =>
          have hlt' : ¬ (P : Int) < X.size + M := by omega
          have hYX : Y = X := by rw [hY.out, HP.out, Nat.min_eq_right (by omega), extract_all]
          subst hYX
          have ess : (Y.toList != Y.toList) = false := by simp
          clear hlt hgl
          go_wp2_with fail
          refine (pick_some z2 210 wr (by omega) (by omega)).mono ?_
          rintro e w7 ⟨k0, hk0, hk1, rfl, hw⟩; subst w7
          obtain ⟨m, rfl⟩ : ∃ m : Nat, k0 = m := ⟨k0.toNat, by omega⟩
          have hCt := law_cut hT.out 1 m
          rw [tp_cut.1, tp_cut.2] at hCt
          have HCt := hid hCt
          obtain ⟨hi, hhi⟩ : ∃ hi, min m Y.size = hi := ⟨_, rfl⟩
          rw [hhi] at HCt
          have hmin : min (m : Int) (Y.size : Int) = hi := by omega
          have hhi2 : hi ≤ Y.size := by omega
          obtain ⟨Z, hZ⟩ : ∃ Z, Y.extract 0 hi = Z := ⟨_, rfl⟩
          have hZs : Z.size ≤ 200 := by rw [← hZ, extract_size _ _ _ hhi2]; omega
          rw [hZ] at HCt
          have HZ := hid hZ
          clear hCt hhi hZ
          go_wp2_with fail
          refine HCt.out.mono ?_
          rintro e w8 ⟨rfl, h8⟩
          obtain ⟨r1, r2⟩ := tp_read1 (x := Z) (y := Y) (a := 0) (m := 200)
          have hR := law_read h8 1 (0 : Nat) (200 : Nat)
          rw [r1, r2, readB_whole Z hZs] at hR
          have HR := hid hR
          clear r1 r2 hR h8 HCt
          go_wp2_with fail
          refine HR.out.mono ?_
          rintro e w9 ⟨rfl, h9⟩
          have hS := law_size h9 1
          have hsz : sizeT (TP Z Y) 1 = Z.size := rfl
          have hfe : fileE (TP Z Y) 1 = 0 := rfl
          rw [hsz, hfe] at hS
          have HS := hid hS
          clear hS hsz hfe h9 HR
          go_wp2_with fail
          refine HS.out.mono ?_
          rintro e w10 ⟨rfl, h10⟩
          have HT10 := hid (HT0.out.trans h10.turn)
          have ezz : (Z.toList == (Y.extract 0 hi).toList) = true := by rw [HZ.out]; simp
          clear h10 HS
          go_wp2_with fail
          go_returns
          exact ⟨rfl, HT10.out⟩
end Go.Proofs.YtiohpmcedfbcgacGreatDoor
