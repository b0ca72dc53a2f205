/- The contracts of package pipe, each in one piece, and of the document's own pipe: both lie alike in memory and answer alike. Conditions: each theorem's own premises. -/
import Derived.Test.YtiohpmcedfbcgaaDoorPipe
import Derived.Outline
namespace Go.Proofs.YtiohpmcedfbcgaaDoor
open Go.RowKit
set_option linter.unusedVariables false

/-- An Errno as an error: nil for 0. -/
def errV (z : Int) : Value := if z = 0 then .nilIface else .iface 34 (.int .i64 z)
/-- An end opened, or closed: what is told, and how many are open then. -/
def turnR (e0 e1 k c : Int) : Int × Int × Int :=
  if k = 3 then (if e1 + c < 0 then (6, e0, e1) else (0, e0, e1 + c)) else if k = 2 then (if e0 + c < 0 then (6, e0, e1) else (0, e0 + c, e1)) else (1, e0, e1)
def writeR (e0 : Int) (b s : ByteArray) : Nat × Int × ByteArray :=
  if e0 = 0 then (0, 14, b) else if s.size = 0 then (0, 0, b) else if 16 ≤ b.size then (0, 12, b) else (min s.size (16 - b.size), 0, b ++ s.extract 0 (min s.size (16 - b.size)))
def readR (e1 : Int) (b : ByteArray) (n : Int) : ByteArray × Int × ByteArray :=
  if n < 0 then (ByteArray.empty, 2, b) else if 0 < n ∧ b.size = 0 ∧ 0 < e1 then (ByteArray.empty, 8, b) else (b.extract 0 (min n.toNat b.size), 0, b.extract (min n.toNat b.size) b.size)

theorem end_no (k : Int) (h2 : ¬ k = 2) (h3 : ¬ k = 3) (w : World) : Calls Tryd.prog 43 #[.int .i64 k] w fun e w' => e = .returned (.bool false) ∧ w = w' := by
  have g2 : (k == 2) = false := by simp [h2]
  have g3 : (k == 3) = false := by simp [h3]
  go_enter Tryd.func43, Tryd.ntmps43
  go_wp2
  go_ret
  exact ⟨rfl, rfl⟩

theorem open_any {w : World} {p : Nat} {b : ByteArray} {e0 e1 : Int} (h : PipeIs w p b e0 e1) (h0 : 0 ≤ e0 ∧ e0 ≤ 1000) (h1 : 0 ≤ e1 ∧ e1 ≤ 1000) (k : Int) :
    Calls Tryd.prog 10 #[.pointer (some ⟨p, 0, none⟩), .int .i64 k] w fun e w' => e = .returned (errV (turnR e0 e1 k 1).1) ∧ PipeIs w' p b (turnR e0 e1 k 1).2.1 (turnR e0 e1 k 1).2.2 ∧ Turn (fun j => j = p) w w' := by
  by_cases k3 : k = 3
  · subst k3
    have e : turnR e0 e1 3 1 = (0, e0, e1 + 1) := by unfold turnR; rw [if_pos rfl, if_neg (by omega)]
    rw [e]
    exact open3 h h1.1 (by omega)
  · by_cases k2 : k = 2
    · subst k2
      have e : turnR e0 e1 2 1 = (0, e0 + 1, e1) := by unfold turnR; rw [if_neg (by decide), if_pos rfl, if_neg (by omega)]
      rw [e]
      exact open2 h h0.1 (by omega)
    · have e : turnR e0 e1 k 1 = (1, e0, e1) := by unfold turnR; rw [if_neg k3, if_neg k2]
      rw [e]
      have HE := hid (end_no k k2 k3)
      have H := hid h
      clear h k2 k3
      go_enter Tryd.func10, Tryd.ntmps10
      go_wp2_with fail
      refine (HE.out w).mono ?_
      rintro e w' ⟨rfl, rfl⟩
      go_wp2_with fail
      go_ret
      exact ⟨rfl, H.out, Turn.refl _ _⟩

theorem close2_none {w : World} {p : Nat} {b : ByteArray} {e1 : Int} (h : PipeIs w p b 0 e1) :
    Calls Tryd.prog 16 #[.pointer (some ⟨p, 0, none⟩), .int .i64 2] w fun e w' => e = .returned (.iface 34 (.int .i64 6)) ∧ w = w' := by
  have hc := h.c1
  clear h
  go_enter Tryd.func16, Tryd.ntmps16
  go_wp2_with (go_at_call 43; refine (end2 _).mono ?_; rintro e w' ⟨rfl, rfl⟩)
  go_ret
  exact ⟨rfl, rfl⟩

theorem close_any {w : World} {p : Nat} {b : ByteArray} {e0 e1 : Int} (h : PipeIs w p b e0 e1) (h0 : 0 ≤ e0 ∧ e0 ≤ 1000) (h1 : 0 ≤ e1 ∧ e1 ≤ 1000) (k : Int) :
    Calls Tryd.prog 16 #[.pointer (some ⟨p, 0, none⟩), .int .i64 k] w fun e w' => e = .returned (errV (turnR e0 e1 k (-1)).1) ∧ PipeIs w' p b (turnR e0 e1 k (-1)).2.1 (turnR e0 e1 k (-1)).2.2 ∧ Turn (fun j => j = p) w w' := by
  by_cases k3 : k = 3
  · subst k3
    by_cases hz : e1 = 0
    · subst hz
      have e : turnR e0 0 3 (-1) = (6, e0, 0) := by unfold turnR; rw [if_pos rfl, if_pos (by decide)]
      rw [e]
      refine (close3_none h).mono ?_
      rintro e w' ⟨rfl, rfl⟩
      exact ⟨rfl, h, Turn.refl _ _⟩
    · have e : turnR e0 e1 3 (-1) = (0, e0, e1 + -1) := by unfold turnR; rw [if_pos rfl, if_neg (by omega)]
      rw [e]
      exact close3 h (by omega) (by omega)
  · by_cases k2 : k = 2
    · subst k2
      by_cases hz : e0 = 0
      · subst hz
        have e : turnR 0 e1 2 (-1) = (6, 0, e1) := by unfold turnR; rw [if_neg (by decide), if_pos rfl, if_pos (by decide)]
        rw [e]
        refine (close2_none h).mono ?_
        rintro e w' ⟨rfl, rfl⟩
        exact ⟨rfl, h, Turn.refl _ _⟩
      · have e : turnR e0 e1 2 (-1) = (0, e0 + -1, e1) := by unfold turnR; rw [if_neg (by decide), if_pos rfl, if_neg (by omega)]
        rw [e]
        exact close2 h (by omega) (by omega)
    · have e : turnR e0 e1 k (-1) = (1, e0, e1) := by unfold turnR; rw [if_neg k3, if_neg k2]
      rw [e]
      have HE := hid (end_no k k2 k3)
      have H := hid h
      clear h k2 k3
      go_enter Tryd.func16, Tryd.ntmps16
      go_wp2_with fail
      refine (HE.out w).mono ?_
      rintro e w' ⟨rfl, rfl⟩
      go_wp2_with fail
      go_ret
      exact ⟨rfl, H.out, Turn.refl _ _⟩

theorem turn_any {w : World} {p : Nat} {b : ByteArray} {e0 e1 : Int} (h : PipeIs w p b e0 e1) (h0 : 0 ≤ e0 ∧ e0 ≤ 1000) (h1 : 0 ≤ e1 ∧ e1 ≤ 1000) (k c : Int) (hc : -1 ≤ c ∧ c ≤ 1) :
    Calls Tryd.prog 32 #[.pointer (some ⟨p, 0, none⟩), .int .i64 k, .int .i64 c] w fun e w' => e = .returned (.int .i64 (turnR e0 e1 k c).1) ∧ PipeIs w' p b (turnR e0 e1 k c).2.1 (turnR e0 e1 k c).2.2 ∧ Turn (fun j => j = p) w w' := by
  have H := hid h
  have c1 := h.c1
  have c2 := h.c2
  have f1 := h.free 1
  have f2 := h.free 2
  obtain ⟨h00, h01⟩ := h0
  obtain ⟨h10, h11⟩ := h1
  obtain ⟨hc0, hc1⟩ := hc
  clear h
  by_cases k3 : k = 3
  · subst k3
    by_cases hz : e1 + c < 0
    · have e : turnR e0 e1 3 c = (6, e0, e1) := by unfold turnR; rw [if_pos rfl, if_pos hz]
      rw [e]
      go_enter Tryd.func32, Tryd.ntmps32
      go_wp2_with fail
      go_ret
      exact ⟨rfl, H.out, Turn.refl _ _⟩
    · have e : turnR e0 e1 3 c = (0, e0, e1 + c) := by unfold turnR; rw [if_pos rfl, if_neg hz]
      rw [e]
      go_enter Tryd.func32, Tryd.ntmps32
      go_wp2_with fail
      go_ret
      exact ⟨rfl, H.out.set2 _, turn_set w p _ _⟩
  · have g3 : (k == 3) = false := by simp [k3]
    by_cases k2 : k = 2
    · subst k2
      by_cases hz : e0 + c < 0
      · have e : turnR e0 e1 2 c = (6, e0, e1) := by unfold turnR; rw [if_neg (by decide), if_pos rfl, if_pos hz]
        rw [e]
        go_enter Tryd.func32, Tryd.ntmps32
        go_wp2_with fail
        go_ret
        exact ⟨rfl, H.out, Turn.refl _ _⟩
      · have e : turnR e0 e1 2 c = (0, e0 + c, e1) := by unfold turnR; rw [if_neg (by decide), if_pos rfl, if_neg hz]
        rw [e]
        go_enter Tryd.func32, Tryd.ntmps32
        go_wp2_with fail
        go_ret
        exact ⟨rfl, H.out.set1 _, turn_set w p _ _⟩
    · have e : turnR e0 e1 k c = (1, e0, e1) := by unfold turnR; rw [if_neg k3, if_neg k2]
      rw [e]
      have g2 : (k != 2) = true := by simp [k2]
      go_enter Tryd.func32, Tryd.ntmps32
      go_wp2_with fail
      go_ret
      exact ⟨rfl, H.out, Turn.refl _ _⟩

theorem write_is {w : World} {p : Nat} {b : ByteArray} {e0 e1 : Int} (h : PipeIs w p b e0 e1) (h0 : 0 ≤ e0) (s : ByteArray) (hs : s.size ≤ 1000) (hb : b.size ≤ 16) :
    Calls Tryd.prog 11 #[.pointer (some ⟨p, 0, none⟩), .string s] w fun e w' => e = .returned (.tuple #[.int .i64 (writeR e0 b s).1, errV (writeR e0 b s).2.1]) ∧ PipeIs w' p (writeR e0 b s).2.2 e0 e1 ∧ Turn (fun j => j = p) w w' := by
  by_cases hz : e0 = 0
  · subst hz
    have e : writeR 0 b s = (0, 14, b) := by unfold writeR; rw [if_pos rfl]
    rw [e]
    refine (write_nobody h s).mono ?_
    rintro e w' ⟨rfl, rfl⟩
    exact ⟨rfl, h, Turn.refl _ _⟩
  · by_cases hs0 : s.size = 0
    · have e : writeR e0 b s = (0, 0, b) := by unfold writeR; rw [if_neg hz, if_pos hs0]
      rw [e]
      refine (write_empty h (by omega) s hs0).mono ?_
      rintro e w' ⟨rfl, rfl⟩
      exact ⟨rfl, h, Turn.refl _ _⟩
    · by_cases hf : 16 ≤ b.size
      · have e : writeR e0 b s = (0, 12, b) := by unfold writeR; rw [if_neg hz, if_neg hs0, if_pos hf]
        rw [e]
        refine (write_full h (by omega) s (by omega) hf (by omega)).mono ?_
        rintro e w' ⟨rfl, rfl⟩
        exact ⟨rfl, h, Turn.refl _ _⟩
      · have e : writeR e0 b s = (min s.size (16 - b.size), 0, b ++ s.extract 0 (min s.size (16 - b.size))) := by unfold writeR; rw [if_neg hz, if_neg hs0, if_neg hf]
        rw [e]
        exact write_some h (by omega) s (by omega) (by omega) (by omega) _ rfl

theorem read_is {w : World} {p : Nat} {b : ByteArray} {e0 e1 : Int} (h : PipeIs w p b e0 e1) (h1 : 0 ≤ e1) (n : Int) (hb : b.size ≤ 16) :
    Calls Tryd.prog 14 #[.pointer (some ⟨p, 0, none⟩), .int .i64 n] w fun e w' => e = .returned (.tuple #[.string (readR e1 b n).1, errV (readR e1 b n).2.1]) ∧ PipeIs w' p (readR e1 b n).2.2 e0 e1 ∧ Turn (fun j => j = p) w w' := by
  by_cases hn : n < 0
  · have e : readR e1 b n = (ByteArray.empty, 2, b) := by unfold readR; rw [if_pos hn]
    rw [e]
    refine (read_neg h n hn).mono ?_
    rintro e w' ⟨rfl, rfl⟩
    exact ⟨rfl, h, Turn.refl _ _⟩
  · by_cases hc : 0 < n ∧ b.size = 0 ∧ 0 < e1
    · have e : readR e1 b n = (ByteArray.empty, 8, b) := by unfold readR; rw [if_neg hn, if_pos hc]
      rw [e]
      refine (read_none h n hc.1 hc.2.1 hc.2.2).mono ?_
      rintro e w' ⟨rfl, rfl⟩
      exact ⟨rfl, h, Turn.refl _ _⟩
    · have e : readR e1 b n = (b.extract 0 (min n.toNat b.size), 0, b.extract (min n.toNat b.size) b.size) := by unfold readR; rw [if_neg hn, if_neg hc]
      rw [e]
      exact read_some h n (by omega) (by omega) (by omega) _ rfl

/-! ### the document's Write, Read -/
theorem refWrite_is {w : World} {p : Nat} {b : ByteArray} {e0 e1 : Int} (h : PipeIs w p b e0 e1) (h0 : 0 ≤ e0) (s : ByteArray) (hs : s.size ≤ 1000) (hb : b.size ≤ 16) :
    Calls Tryd.prog 33 #[.pointer (some ⟨p, 0, none⟩), .string s] w fun e w' => e = .returned (.tuple #[.int .i64 (writeR e0 b s).1, .int .i64 (writeR e0 b s).2.1]) ∧ PipeIs w' p (writeR e0 b s).2.2 e0 e1 ∧ Turn (fun j => j = p) w w' := by
  have hc := h.c1
  have hc0 := h.c0
  have hfz := h.free 0
  have H := hid h
  clear h
  by_cases hz : e0 = 0
  · subst hz
    have e : writeR 0 b s = (0, 14, b) := by unfold writeR; rw [if_pos rfl]
    rw [e]
    go_enter Tryd.func33, Tryd.ntmps33
    go_wp2_with fail
    go_ret2
    exact ⟨rfl, H.out, Turn.refl _ _⟩
  · have hz' : (e0 == 0) = false := by simp [hz]
    by_cases hs0 : s.size = 0
    · have e : writeR e0 b s = (0, 0, b) := by unfold writeR; rw [if_neg hz, if_pos hs0]
      rw [e]
      obtain rfl := empty_of hs0
      go_enter Tryd.func33, Tryd.ntmps33
      go_wp2_with fail
      go_ret2
      exact ⟨rfl, H.out, Turn.refl _ _⟩
    · have hsb := full_of (s := s) (by omega)
      by_cases hf : b.size = 16
      · have e : writeR e0 b s = (0, 12, b) := by unfold writeR; rw [if_neg hz, if_neg hs0, if_pos (by omega)]
        rw [e]
        go_enter Tryd.func33, Tryd.ntmps33
        go_wp2_with fail
        go_ret2
        exact ⟨rfl, H.out, Turn.refl _ _⟩
      · have e : writeR e0 b s = (min s.size (16 - b.size), 0, b ++ s.extract 0 (min s.size (16 - b.size))) := by unfold writeR; rw [if_neg hz, if_neg hs0, if_neg (by omega)]
        rw [e]
        have hne : ((16 : Int) - b.size == 0) = false := by
          have : ¬ (16 : Int) - b.size = 0 := by omega
          simp [this]
        by_cases hg : s.size ≤ 16 - b.size
        · have em : min s.size (16 - b.size) = s.size := by omega
          rw [em, ext_all]
          have hg' : ¬ (16 : Int) - b.size < s.size := by omega
          go_enter Tryd.func33, Tryd.ntmps33
          go_wp2_with fail
          go_ret2
          exact ⟨rfl, H.out.set0 _, turn_set w p _ _⟩
        · have em : min s.size (16 - b.size) = 16 - b.size := by omega
          rw [em]
          have hg' : (16 : Int) - b.size < s.size := by omega
          have hn' : ((16 : Int) - b.size).toNat = 16 - b.size := by omega
          go_enter Tryd.func33, Tryd.ntmps33
          go_wp2_with fail
          all_goals go_ret2
          all_goals exact ⟨ret_pair (by omega), H.out.set0 _, turn_set w p _ _⟩

theorem refRead_is {w : World} {p : Nat} {b : ByteArray} {e0 e1 : Int} (h : PipeIs w p b e0 e1) (h1 : 0 ≤ e1) (n : Int) (hb : b.size ≤ 16) :
    Calls Tryd.prog 34 #[.pointer (some ⟨p, 0, none⟩), .int .i64 n] w fun e w' => e = .returned (.tuple #[.string (readR e1 b n).1, .int .i64 (readR e1 b n).2.1]) ∧ PipeIs w' p (readR e1 b n).2.2 e0 e1 ∧ Turn (fun j => j = p) w w' := by
  have hc := h.c2
  have hc0 := h.c0
  have hfz := h.free 0
  have H := hid h
  clear h
  by_cases hn : n < 0
  · have e : readR e1 b n = (ByteArray.empty, 2, b) := by unfold readR; rw [if_pos hn]
    rw [e]
    go_enter Tryd.func34, Tryd.ntmps34
    go_wp2_with fail
    go_ret2
    exact ⟨rfl, H.out, Turn.refl _ _⟩
  · by_cases hn0 : n = 0
    · subst hn0
      have e : readR e1 b 0 = (ByteArray.empty, 0, b) := by
        unfold readR
        rw [if_neg (by decide), if_neg (by omega)]
        simp
      rw [e]
      go_enter Tryd.func34, Tryd.ntmps34
      go_wp2_with fail
      go_ret2
      exact ⟨rfl, H.out, Turn.refl _ _⟩
    · have hn0' : (n == 0) = false := by simp [hn0]
      by_cases hb0 : b.size = 0
      · obtain rfl := empty_of hb0
        by_cases he : 0 < e1
        · have e : readR e1 ByteArray.empty n = (ByteArray.empty, 8, ByteArray.empty) := by unfold readR; rw [if_neg hn, if_pos ⟨by omega, hb0, he⟩]
          rw [e]
          go_enter Tryd.func34, Tryd.ntmps34
          go_wp2_with fail
          go_ret2
          exact ⟨rfl, H.out, Turn.refl _ _⟩
        · have e : readR e1 ByteArray.empty n = (ByteArray.empty, 0, ByteArray.empty) := by
            unfold readR; rw [if_neg hn, if_neg (by omega)]
            simp
          rw [e]
          have he' : decide (0 < e1) = false := decide_eq_false he
          go_enter Tryd.func34, Tryd.ntmps34
          go_wp2_with fail
          all_goals go_ret2
          all_goals exact ⟨rfl, H.out.set0 _, turn_set w p _ _⟩
      · have e : readR e1 b n = (b.extract 0 (min n.toNat b.size), 0, b.extract (min n.toNat b.size) b.size) := by unfold readR; rw [if_neg hn, if_neg (by omega)]
        rw [e]
        have hsb := full_of (s := b) (by omega)
        by_cases hg : (b.size : Int) < n
        · rw [show min n.toNat b.size = b.size by omega, ext_all, ext_end]
          go_enter Tryd.func34, Tryd.ntmps34
          go_wp2_with fail
          all_goals go_ret2
          all_goals exact ⟨ret_str (by first | rfl | rw [ext_all]), by first | (rw [ext_end]; exact H.out.set0 _) | exact H.out.set0 _, turn_set w p _ _⟩
        · rw [show min n.toNat b.size = n.toNat by omega]
          go_enter Tryd.func34, Tryd.ntmps34
          go_wp2_with fail
          all_goals go_ret2
          all_goals exact ⟨rfl, H.out.set0 _, turn_set w p _ _⟩

theorem ends_is {w : World} {p : Nat} {b : ByteArray} {e0 e1 : Int} (h : PipeIs w p b e0 e1) : Calls Tryd.prog 35 #[.pointer (some ⟨p, 0, none⟩)] w fun e w' => e = .returned (.tuple #[.int .i64 e0, .int .i64 e1]) ∧ Turn (fun _ => False) w w' := by
  have c1 := h.c1
  have c2 := h.c2
  clear h
  go_enter Tryd.func35, Tryd.ntmps35
  go_wp2_with fail
  go_region
  all_goals go_wp2_with fail
  all_goals go_ret2
  all_goals exact ⟨rfl, (Turn.refl _ _).drew⟩
end Go.Proofs.YtiohpmcedfbcgaaDoor
