/- Several texts of ours in one, in build order (DescTab, DescUsed). Conditions: each theorem's own premises. -/
import Derived.Test.YtiohpmcedfbcgacGreatDoorProg
import Derived.Test.YtiohpmcedfbcgacGreatDoorBase
import Derived.BigRegion
import Derived.Deep.LoopGhost
import Derived.Deep.DeepCutAuto
import Derived.Deep.CutBlock
import Derived.Outline
import Derived.Handy
/- Package desc: a table of numbers in memory; least, Used. Conditions: each theorem's own premises. -/
namespace Go.Proofs.YtiohpmcedfbcgacGreatDoor
open Go.RowKit
set_option linter.unusedVariables false

/-- A table: of each number the entry (0: none; else one more than its key), and whether Exec closes it. -/
abbrev PTab := Nat → Int × Bool
structure TabIs (w : World) (b : Nat) (L : PTab) : Prop where
  ent : ∀ i, i < 8 → w.cell? ⟨b, i * 2, none⟩ = some (.int .i64 (L i).1)
  mark : ∀ i, i < 8 → w.cell? ⟨b, i * 2 + 1, none⟩ = some (.bool (L i).2)
  fz : ∀ i, w.frozen? ⟨b, i, none⟩ = false
  pos : ∀ i, i < 8 → 0 ≤ (L i).1 ∧ (L i).1 ≤ 40
def leastFrom (L : PTab) : Nat → Nat → Int
  | 0, _ => -1
  | f + 1, i => if (L i).1 = 0 then i else leastFrom L f (i + 1)
/-- The least number that is free; -1: none is. -/
def leastL (L : PTab) : Int := leastFrom L 8 0
def usedFrom (L : PTab) : Nat → Nat → Nat
  | 0, _ => 0
  | f + 1, i => (if 0 < (L i).1 then 1 else 0) + usedFrom L f (i + 1)
/-- How many numbers there are. -/
def usedL (L : PTab) : Nat := usedFrom L 8 0
def tset (L : PTab) (n : Nat) (x : Int × Bool) : PTab := fun i => if i = n then x else L i
section
variable {w w' : World} {b : Nat} {L : PTab}
theorem TabIs.lt (h : TabIs w b L) : b < w.heap.size := lt_of_cell (h.ent 0 (by omega))
theorem TabIs.turned {S : Nat → Prop} (h : TabIs w b L) (t : Turn S w w') (hb : ¬ S b) : TabIs w' b L :=
  ⟨fun i hi => (t.cell (a := ⟨b, i * 2, none⟩) h.lt hb).trans (h.ent i hi), fun i hi => (t.cell (a := ⟨b, i * 2 + 1, none⟩) h.lt hb).trans (h.mark i hi), fun i => (t.frozen (a := ⟨b, i, none⟩) h.lt hb).trans (h.fz i), h.pos⟩
theorem leastFrom_zero (f i : Nat) (h : (L i).1 = 0) : leastFrom L (f + 1) i = i := if_pos h
theorem leastFrom_next (f i : Nat) (h : (L i).1 ≠ 0) : leastFrom L (f + 1) i = leastFrom L f (i + 1) := if_neg h
theorem leastFrom_spec : ∀ (f i : Nat), leastFrom L f i = -1 ∨ ∃ k : Nat, leastFrom L f i = k ∧ i ≤ k ∧ k < i + f ∧ (L k).1 = 0
  | 0, i => .inl rfl
  | f + 1, i => by
    by_cases h : (L i).1 = 0
    · exact .inr ⟨i, leastFrom_zero f i h, Nat.le_refl _, by omega, h⟩
    · rw [leastFrom_next f i h]
      rcases leastFrom_spec f (i + 1) with h1 | ⟨k, h1, h2, h3, h4⟩
      · exact .inl h1
      · exact .inr ⟨k, h1, by omega, by omega, h4⟩
theorem leastL_spec (L : PTab) : leastL L = -1 ∨ ∃ k : Nat, leastL L = k ∧ k < 8 ∧ (L k).1 = 0 := by
  rcases leastFrom_spec (L := L) 8 0 with h | ⟨k, h1, h2, h3, h4⟩
  · exact .inl h
  · exact .inr ⟨k, h1, by omega, h4⟩
theorem usedFrom_le : ∀ (f i : Nat), usedFrom L f i ≤ f
  | 0, _ => Nat.le_refl _
  | f + 1, i => by
    have := usedFrom_le f (i + 1)
    show (if _ then 1 else 0) + _ ≤ _
    split <;> omega
theorem usedL_le (L : PTab) : usedL L ≤ 8 := usedFrom_le 8 0

/-! ### least -/
theorem free_is (w : World) (a : Int) (c : Bool) : Calls Tryz.prog 297 #[.agg #[.int .i64 a, .bool c]] w fun e w' => e = .returned (.bool (decide (a = 0))) ∧ Turn (fun _ => False) w w' := by
  go_enter Tryz.func297, Tryz.ntmps297
  go_wp2_with fail
  go_ret
  exact ⟨rfl, (Turn.refl _ _).alloc _⟩
set_option maxHeartbeats 1000000 in
theorem indexFunc_is (h : TabIs w b L) : Calls Tryz.prog 296 #[.slice (some ⟨b, 0, none⟩) 8 8, .func (.func 297) #[] #[]] w fun e w' => e = .returned (.int .i64 (leastL L)) ∧ Turn (fun _ => False) w w' := by
  have H := hid h
  obtain ⟨R, hR⟩ : ∃ R, leastL L = R := ⟨_, rfl⟩
  rw [hR]
  have HR := hid hR
  clear h hR
  go_enter Tryz.func296, Tryz.ntmps296
  go_wp2_with fail
  go_loopg [8] 8 (fun gl i wr => ∃ k : Nat, k + gl = 8 ∧ i = .int .i64 k ∧ Hid (leastFrom L gl k = R) ∧ Turn (fun _ => False) w wr)
  case atStart => exact ⟨0, by omega, rfl, HR, Turn.refl _ _⟩
  case round =>
    obtain ⟨k, hk, rfl, hf, ht⟩ := hrel
    by_cases hk8 : k < 8
    · have hk' : (k : Int) < 8 := by omega
      obtain ⟨g, rfl⟩ : ∃ g, gk = g + 1 := ⟨7 - k, by omega⟩
      have h' := H.out.turned ht id
      have c1 := h'.ent k hk8
      have c2 := h'.mark k hk8
      have HT := hid ht
      have HF : Hid ((L k).1 = 0 → R = k) := fun e => by rw [← hf.out, leastFrom_zero g k e]
      have HN : Hid ((L k).1 ≠ 0 → leastFrom L g (k + 1) = R) := fun e => by rw [← hf.out, leastFrom_next g k e]
      clear h' ht hf
      go_wp2_with (go_at_call 297; refine (free_is _ _ _).mono ?_; rintro e w' ⟨rfl, ht'⟩; have HT' := hid (HT.out.trans ht'); clear ht'; by_cases hz : (L k).1 = 0)
      · go_ret
        exact ⟨ret_int (HF.out hz).symm, HT'.out⟩
      · go_roundg g
        case measure => omega
        case rel => exact ⟨k + 1, by omega, by go_num, hid (HN.out hz), HT'.out⟩
    · have hk' : ¬ (k : Int) < 8 := by omega
      obtain rfl : k = 8 := by omega
      obtain rfl : gk = 0 := by omega
      have HF : Hid (-1 = R) := hf
      have HT := hid ht
      clear hf ht
      go_wp2_with fail
      go_ret
      exact ⟨ret_int HF.out, HT.out⟩
theorem least_is (h : TabIs w b L) : Calls Tryz.prog 220 #[.pointer (some ⟨b, 0, none⟩)] w fun e w' => e = .returned (.int .i64 (leastL L)) ∧ Turn (fun _ => False) w w' := by
  have H := hid h
  clear h
  go_enter Tryz.func220, Tryz.ntmps220
  go_wp2_with (go_at_call 296; refine (indexFunc_is H.out).mono ?_; rintro e w' ⟨rfl, ht'⟩)
  go_ret
  exact ⟨rfl, ht'⟩
/-! ### Used -/
theorem idx0 (x0 x1 x2 x3 x4 x5 x6 x7 : Int) (y0 y1 y2 y3 y4 y5 y6 y7 : Bool) (w : World) : (Instr.index 77 (.agg #[.int .i64 x0, .bool y0, .int .i64 x1, .bool y1, .int .i64 x2, .bool y2, .int .i64 x3, .bool y3, .int .i64 x4, .bool y4, .int .i64 x5, .bool y5, .int .i64 x6, .bool y6, .int .i64 x7, .bool y7]) (.int .i64 0)).run Tryz.prog w = .ok (.agg #[.int .i64 x0, .bool y0]) w := by kernel_rfl
theorem idx1 (x0 x1 x2 x3 x4 x5 x6 x7 : Int) (y0 y1 y2 y3 y4 y5 y6 y7 : Bool) (w : World) : (Instr.index 77 (.agg #[.int .i64 x0, .bool y0, .int .i64 x1, .bool y1, .int .i64 x2, .bool y2, .int .i64 x3, .bool y3, .int .i64 x4, .bool y4, .int .i64 x5, .bool y5, .int .i64 x6, .bool y6, .int .i64 x7, .bool y7]) (.int .i64 1)).run Tryz.prog w = .ok (.agg #[.int .i64 x1, .bool y1]) w := by kernel_rfl
theorem idx2 (x0 x1 x2 x3 x4 x5 x6 x7 : Int) (y0 y1 y2 y3 y4 y5 y6 y7 : Bool) (w : World) : (Instr.index 77 (.agg #[.int .i64 x0, .bool y0, .int .i64 x1, .bool y1, .int .i64 x2, .bool y2, .int .i64 x3, .bool y3, .int .i64 x4, .bool y4, .int .i64 x5, .bool y5, .int .i64 x6, .bool y6, .int .i64 x7, .bool y7]) (.int .i64 2)).run Tryz.prog w = .ok (.agg #[.int .i64 x2, .bool y2]) w := by kernel_rfl
theorem idx3 (x0 x1 x2 x3 x4 x5 x6 x7 : Int) (y0 y1 y2 y3 y4 y5 y6 y7 : Bool) (w : World) : (Instr.index 77 (.agg #[.int .i64 x0, .bool y0, .int .i64 x1, .bool y1, .int .i64 x2, .bool y2, .int .i64 x3, .bool y3, .int .i64 x4, .bool y4, .int .i64 x5, .bool y5, .int .i64 x6, .bool y6, .int .i64 x7, .bool y7]) (.int .i64 3)).run Tryz.prog w = .ok (.agg #[.int .i64 x3, .bool y3]) w := by kernel_rfl
theorem idx4 (x0 x1 x2 x3 x4 x5 x6 x7 : Int) (y0 y1 y2 y3 y4 y5 y6 y7 : Bool) (w : World) : (Instr.index 77 (.agg #[.int .i64 x0, .bool y0, .int .i64 x1, .bool y1, .int .i64 x2, .bool y2, .int .i64 x3, .bool y3, .int .i64 x4, .bool y4, .int .i64 x5, .bool y5, .int .i64 x6, .bool y6, .int .i64 x7, .bool y7]) (.int .i64 4)).run Tryz.prog w = .ok (.agg #[.int .i64 x4, .bool y4]) w := by kernel_rfl
theorem idx5 (x0 x1 x2 x3 x4 x5 x6 x7 : Int) (y0 y1 y2 y3 y4 y5 y6 y7 : Bool) (w : World) : (Instr.index 77 (.agg #[.int .i64 x0, .bool y0, .int .i64 x1, .bool y1, .int .i64 x2, .bool y2, .int .i64 x3, .bool y3, .int .i64 x4, .bool y4, .int .i64 x5, .bool y5, .int .i64 x6, .bool y6, .int .i64 x7, .bool y7]) (.int .i64 5)).run Tryz.prog w = .ok (.agg #[.int .i64 x5, .bool y5]) w := by kernel_rfl
theorem idx6 (x0 x1 x2 x3 x4 x5 x6 x7 : Int) (y0 y1 y2 y3 y4 y5 y6 y7 : Bool) (w : World) : (Instr.index 77 (.agg #[.int .i64 x0, .bool y0, .int .i64 x1, .bool y1, .int .i64 x2, .bool y2, .int .i64 x3, .bool y3, .int .i64 x4, .bool y4, .int .i64 x5, .bool y5, .int .i64 x6, .bool y6, .int .i64 x7, .bool y7]) (.int .i64 6)).run Tryz.prog w = .ok (.agg #[.int .i64 x6, .bool y6]) w := by kernel_rfl
theorem idx7 (x0 x1 x2 x3 x4 x5 x6 x7 : Int) (y0 y1 y2 y3 y4 y5 y6 y7 : Bool) (w : World) : (Instr.index 77 (.agg #[.int .i64 x0, .bool y0, .int .i64 x1, .bool y1, .int .i64 x2, .bool y2, .int .i64 x3, .bool y3, .int .i64 x4, .bool y4, .int .i64 x5, .bool y5, .int .i64 x6, .bool y6, .int .i64 x7, .bool y7]) (.int .i64 7)).run Tryz.prog w = .ok (.agg #[.int .i64 x7, .bool y7]) w := by kernel_rfl
end
end Go.Proofs.YtiohpmcedfbcgacGreatDoor
/- Package desc: Used. Conditions: each theorem's own premises. -/
namespace Go.Proofs.YtiohpmcedfbcgacGreatDoor
open Go.RowKit
set_option linter.unusedVariables false

section
variable {w w' : World} {b : Nat} {L : PTab}
set_option maxHeartbeats 1000000 in
set_option maxRecDepth 100000 in
theorem used_is (h : TabIs w b L) : Calls Tryz.prog 44 #[.pointer (some ⟨b, 0, none⟩)] w fun e w' => e = .returned (.int .i64 (usedL L)) ∧ Turn (fun _ => False) w w' := by
  have H := hid h
  have e0 := h.ent 0 (by omega)
  have e1 := h.ent 1 (by omega)
  have e2 := h.ent 2 (by omega)
  have e3 := h.ent 3 (by omega)
  have e4 := h.ent 4 (by omega)
  have e5 := h.ent 5 (by omega)
  have e6 := h.ent 6 (by omega)
  have e7 := h.ent 7 (by omega)
  have m0 := h.mark 0 (by omega)
  have m1 := h.mark 1 (by omega)
  have m2 := h.mark 2 (by omega)
  have m3 := h.mark 3 (by omega)
  have m4 := h.mark 4 (by omega)
  have m5 := h.mark 5 (by omega)
  have m6 := h.mark 6 (by omega)
  have m7 := h.mark 7 (by omega)
  simp only [Nat.zero_mul, Nat.reduceMul, Nat.reduceAdd, Nat.zero_add] at e0 e1 e2 e3 e4 e5 e6 e7 m0 m1 m2 m3 m4 m5 m6 m7
  clear h
  go_enter Tryz.func44, Tryz.ntmps44
  obtain ⟨R, hR⟩ : ∃ R, usedL L = R := ⟨_, rfl⟩
  rw [hR]
  have HR := hid hR
  clear hR
  go_wp2_with fail
  go_loopg [3, 10] 8 (fun gl n i wr => ∃ k m : Nat, k + gl = 8 ∧ i = .int .i64 k ∧ n = .int .i64 m ∧ Hid (m + usedFrom L gl k = R) ∧ m ≤ k ∧ Hid (Turn (fun _ => False) w wr))
  case atStart => exact ⟨0, 0, by omega, rfl, rfl, hid ((Nat.zero_add _).trans HR.out), by omega, hid (Turn.refl _ _)⟩
  case round =>
    obtain ⟨k, m, hk, rfl, rfl, hf, hm, ht⟩ := hrel
    clear e0 e1 e2 e3 e4 e5 e6 e7 m0 m1 m2 m3 m4 m5 m6 m7
    have hgk : gk = 8 - k := by omega
    subst hgk
    rcases (show k = 0 ∨ k = 1 ∨ k = 2 ∨ k = 3 ∨ k = 4 ∨ k = 5 ∨ k = 6 ∨ k = 7 ∨ k = 8 by omega) with rfl | rfl | rfl | rfl | rfl | rfl | rfl | rfl | rfl
    · have ix := idx0 (L 0).1 (L 1).1 (L 2).1 (L 3).1 (L 4).1 (L 5).1 (L 6).1 (L 7).1 (L 0).2 (L 1).2 (L 2).2 (L 3).2 (L 4).2 (L 5).2 (L 6).2 (L 7).2 wr
      by_cases hz : 0 < (L 0).1
      · have HF : Hid ((m + 1) + usedFrom L (7 - 0) (0 + 1) = R) := hid (by rw [← hf.out]; show _ = m + ((if 0 < (L 0).1 then 1 else 0) + _); rw [if_pos hz]; show m + 1 + _ = m + (1 + usedFrom L (7 - 0) (0 + 1)); omega)
        go_wp2_with fail
        go_roundg (7 - 0)
        case measure => omega
        case rel => exact ⟨0 + 1, m + 1, by omega, by go_num, by go_num, HF, by omega, hid (ht.out.alloc _)⟩
      · have HF : Hid (m + usedFrom L (7 - 0) (0 + 1) = R) := hid (by rw [← hf.out]; show _ = m + ((if 0 < (L 0).1 then 1 else 0) + _); rw [if_neg hz]; show m + _ = m + (0 + usedFrom L (7 - 0) (0 + 1)); omega)
        go_wp2_with fail
        go_roundg (7 - 0)
        case measure => omega
        case rel => exact ⟨0 + 1, m, by omega, by go_num, rfl, HF, by omega, hid (ht.out.alloc _)⟩
    · have ix := idx1 (L 0).1 (L 1).1 (L 2).1 (L 3).1 (L 4).1 (L 5).1 (L 6).1 (L 7).1 (L 0).2 (L 1).2 (L 2).2 (L 3).2 (L 4).2 (L 5).2 (L 6).2 (L 7).2 wr
      by_cases hz : 0 < (L 1).1
      · have HF : Hid ((m + 1) + usedFrom L (7 - 1) (1 + 1) = R) := hid (by rw [← hf.out]; show _ = m + ((if 0 < (L 1).1 then 1 else 0) + _); rw [if_pos hz]; show m + 1 + _ = m + (1 + usedFrom L (7 - 1) (1 + 1)); omega)
        go_wp2_with fail
        go_roundg (7 - 1)
        case measure => omega
        case rel => exact ⟨1 + 1, m + 1, by omega, by go_num, by go_num, HF, by omega, hid (ht.out.alloc _)⟩
      · have HF : Hid (m + usedFrom L (7 - 1) (1 + 1) = R) := hid (by rw [← hf.out]; show _ = m + ((if 0 < (L 1).1 then 1 else 0) + _); rw [if_neg hz]; show m + _ = m + (0 + usedFrom L (7 - 1) (1 + 1)); omega)
        go_wp2_with fail
        go_roundg (7 - 1)
        case measure => omega
        case rel => exact ⟨1 + 1, m, by omega, by go_num, rfl, HF, by omega, hid (ht.out.alloc _)⟩
    · have ix := idx2 (L 0).1 (L 1).1 (L 2).1 (L 3).1 (L 4).1 (L 5).1 (L 6).1 (L 7).1 (L 0).2 (L 1).2 (L 2).2 (L 3).2 (L 4).2 (L 5).2 (L 6).2 (L 7).2 wr
      by_cases hz : 0 < (L 2).1
      · have HF : Hid ((m + 1) + usedFrom L (7 - 2) (2 + 1) = R) := hid (by rw [← hf.out]; show _ = m + ((if 0 < (L 2).1 then 1 else 0) + _); rw [if_pos hz]; show m + 1 + _ = m + (1 + usedFrom L (7 - 2) (2 + 1)); omega)
        go_wp2_with fail
        go_roundg (7 - 2)
        case measure => omega
        case rel => exact ⟨2 + 1, m + 1, by omega, by go_num, by go_num, HF, by omega, hid (ht.out.alloc _)⟩
      · have HF : Hid (m + usedFrom L (7 - 2) (2 + 1) = R) := hid (by rw [← hf.out]; show _ = m + ((if 0 < (L 2).1 then 1 else 0) + _); rw [if_neg hz]; show m + _ = m + (0 + usedFrom L (7 - 2) (2 + 1)); omega)
        go_wp2_with fail
        go_roundg (7 - 2)
        case measure => omega
        case rel => exact ⟨2 + 1, m, by omega, by go_num, rfl, HF, by omega, hid (ht.out.alloc _)⟩
    · have ix := idx3 (L 0).1 (L 1).1 (L 2).1 (L 3).1 (L 4).1 (L 5).1 (L 6).1 (L 7).1 (L 0).2 (L 1).2 (L 2).2 (L 3).2 (L 4).2 (L 5).2 (L 6).2 (L 7).2 wr
      by_cases hz : 0 < (L 3).1
      · have HF : Hid ((m + 1) + usedFrom L (7 - 3) (3 + 1) = R) := hid (by rw [← hf.out]; show _ = m + ((if 0 < (L 3).1 then 1 else 0) + _); rw [if_pos hz]; show m + 1 + _ = m + (1 + usedFrom L (7 - 3) (3 + 1)); omega)
        go_wp2_with fail
        go_roundg (7 - 3)
        case measure => omega
        case rel => exact ⟨3 + 1, m + 1, by omega, by go_num, by go_num, HF, by omega, hid (ht.out.alloc _)⟩
      · have HF : Hid (m + usedFrom L (7 - 3) (3 + 1) = R) := hid (by rw [← hf.out]; show _ = m + ((if 0 < (L 3).1 then 1 else 0) + _); rw [if_neg hz]; show m + _ = m + (0 + usedFrom L (7 - 3) (3 + 1)); omega)
        go_wp2_with fail
        go_roundg (7 - 3)
        case measure => omega
        case rel => exact ⟨3 + 1, m, by omega, by go_num, rfl, HF, by omega, hid (ht.out.alloc _)⟩
    · have ix := idx4 (L 0).1 (L 1).1 (L 2).1 (L 3).1 (L 4).1 (L 5).1 (L 6).1 (L 7).1 (L 0).2 (L 1).2 (L 2).2 (L 3).2 (L 4).2 (L 5).2 (L 6).2 (L 7).2 wr
      by_cases hz : 0 < (L 4).1
      · have HF : Hid ((m + 1) + usedFrom L (7 - 4) (4 + 1) = R) := hid (by rw [← hf.out]; show _ = m + ((if 0 < (L 4).1 then 1 else 0) + _); rw [if_pos hz]; show m + 1 + _ = m + (1 + usedFrom L (7 - 4) (4 + 1)); omega)
        go_wp2_with fail
        go_roundg (7 - 4)
        case measure => omega
        case rel => exact ⟨4 + 1, m + 1, by omega, by go_num, by go_num, HF, by omega, hid (ht.out.alloc _)⟩
      · have HF : Hid (m + usedFrom L (7 - 4) (4 + 1) = R) := hid (by rw [← hf.out]; show _ = m + ((if 0 < (L 4).1 then 1 else 0) + _); rw [if_neg hz]; show m + _ = m + (0 + usedFrom L (7 - 4) (4 + 1)); omega)
        go_wp2_with fail
        go_roundg (7 - 4)
        case measure => omega
        case rel => exact ⟨4 + 1, m, by omega, by go_num, rfl, HF, by omega, hid (ht.out.alloc _)⟩
    · have ix := idx5 (L 0).1 (L 1).1 (L 2).1 (L 3).1 (L 4).1 (L 5).1 (L 6).1 (L 7).1 (L 0).2 (L 1).2 (L 2).2 (L 3).2 (L 4).2 (L 5).2 (L 6).2 (L 7).2 wr
      by_cases hz : 0 < (L 5).1
      · have HF : Hid ((m + 1) + usedFrom L (7 - 5) (5 + 1) = R) := hid (by rw [← hf.out]; show _ = m + ((if 0 < (L 5).1 then 1 else 0) + _); rw [if_pos hz]; show m + 1 + _ = m + (1 + usedFrom L (7 - 5) (5 + 1)); omega)
        go_wp2_with fail
        go_roundg (7 - 5)
        case measure => omega
        case rel => exact ⟨5 + 1, m + 1, by omega, by go_num, by go_num, HF, by omega, hid (ht.out.alloc _)⟩
      · have HF : Hid (m + usedFrom L (7 - 5) (5 + 1) = R) := hid (by rw [← hf.out]; show _ = m + ((if 0 < (L 5).1 then 1 else 0) + _); rw [if_neg hz]; show m + _ = m + (0 + usedFrom L (7 - 5) (5 + 1)); omega)
        go_wp2_with fail
        go_roundg (7 - 5)
        case measure => omega
        case rel => exact ⟨5 + 1, m, by omega, by go_num, rfl, HF, by omega, hid (ht.out.alloc _)⟩
    · have ix := idx6 (L 0).1 (L 1).1 (L 2).1 (L 3).1 (L 4).1 (L 5).1 (L 6).1 (L 7).1 (L 0).2 (L 1).2 (L 2).2 (L 3).2 (L 4).2 (L 5).2 (L 6).2 (L 7).2 wr
      by_cases hz : 0 < (L 6).1
      · have HF : Hid ((m + 1) + usedFrom L (7 - 6) (6 + 1) = R) := hid (by rw [← hf.out]; show _ = m + ((if 0 < (L 6).1 then 1 else 0) + _); rw [if_pos hz]; show m + 1 + _ = m + (1 + usedFrom L (7 - 6) (6 + 1)); omega)
        go_wp2_with fail
        go_roundg (7 - 6)
        case measure => omega
        case rel => exact ⟨6 + 1, m + 1, by omega, by go_num, by go_num, HF, by omega, hid (ht.out.alloc _)⟩
      · have HF : Hid (m + usedFrom L (7 - 6) (6 + 1) = R) := hid (by rw [← hf.out]; show _ = m + ((if 0 < (L 6).1 then 1 else 0) + _); rw [if_neg hz]; show m + _ = m + (0 + usedFrom L (7 - 6) (6 + 1)); omega)
        go_wp2_with fail
        go_roundg (7 - 6)
        case measure => omega
        case rel => exact ⟨6 + 1, m, by omega, by go_num, rfl, HF, by omega, hid (ht.out.alloc _)⟩
    · have ix := idx7 (L 0).1 (L 1).1 (L 2).1 (L 3).1 (L 4).1 (L 5).1 (L 6).1 (L 7).1 (L 0).2 (L 1).2 (L 2).2 (L 3).2 (L 4).2 (L 5).2 (L 6).2 (L 7).2 wr
      by_cases hz : 0 < (L 7).1
      · have HF : Hid ((m + 1) + usedFrom L (7 - 7) (7 + 1) = R) := hid (by rw [← hf.out]; show _ = m + ((if 0 < (L 7).1 then 1 else 0) + _); rw [if_pos hz]; show m + 1 + _ = m + (1 + usedFrom L (7 - 7) (7 + 1)); omega)
        go_wp2_with fail
        go_roundg (7 - 7)
        case measure => omega
        case rel => exact ⟨7 + 1, m + 1, by omega, by go_num, by go_num, HF, by omega, hid (ht.out.alloc _)⟩
      · have HF : Hid (m + usedFrom L (7 - 7) (7 + 1) = R) := hid (by rw [← hf.out]; show _ = m + ((if 0 < (L 7).1 then 1 else 0) + _); rw [if_neg hz]; show m + _ = m + (0 + usedFrom L (7 - 7) (7 + 1)); omega)
        go_wp2_with fail
        go_roundg (7 - 7)
        case measure => omega
        case rel => exact ⟨7 + 1, m, by omega, by go_num, rfl, HF, by omega, hid (ht.out.alloc _)⟩
    · have HF : Hid ((m : Int) = R) := hid (by rw [← hf.out]; exact congrArg Nat.cast (Nat.add_zero m).symm)
      go_wp2_with fail
      go_ret
      exact ⟨ret_int HF.out, ht.out⟩
end
end Go.Proofs.YtiohpmcedfbcgacGreatDoor
