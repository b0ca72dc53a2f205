/- Package desc: a table of numbers in memory; least, Used. Conditions: each theorem's own premises. -/
import Derived.Test.YtiohpmcedfbcgabDoorProg
import Derived.Test.YtiohpmcedfbcgabDoorBase
import Derived.BigRegion
import Derived.Deep.LoopGhost
import Derived.Deep.DeepCutAuto
import Derived.Deep.CutBlock
import Derived.Outline
import Derived.Handy
namespace Go.Proofs.YtiohpmcedfbcgabDoor
open Go.RowKit
set_option linter.unusedVariables false

/-- A table: of each number the entry (0: none; else one more than its key), and whether Exec closes it. -/
abbrev PTab := Nat → Int × Bool
structure TabIs (w : World) (b : Nat) (L : PTab) : Prop where
  ent : ∀ i, i < 8 → w.cell? ⟨b, i * 2, none⟩ = some (.int .i64 (L i).1)
  mark : ∀ i, i < 8 → w.cell? ⟨b, i * 2 + 1, none⟩ = some (.bool (L i).2)
  fz : ∀ i, w.frozen? ⟨b, i, none⟩ = false
  pos : ∀ i, i < 8 → 0 ≤ (L i).1 ∧ (L i).1 ≤ 40
def leastFrom (L : PTab) : Nat → Nat → Int
  | 0, _ => -1
  | f + 1, i => if (L i).1 = 0 then i else leastFrom L f (i + 1)
/-- The least number that is free; -1: none is. -/
def leastL (L : PTab) : Int := leastFrom L 8 0
def usedFrom (L : PTab) : Nat → Nat → Nat
  | 0, _ => 0
  | f + 1, i => (if 0 < (L i).1 then 1 else 0) + usedFrom L f (i + 1)
/-- How many numbers there are. -/
def usedL (L : PTab) : Nat := usedFrom L 8 0
def tset (L : PTab) (n : Nat) (x : Int × Bool) : PTab := fun i => if i = n then x else L i
section
variable {w w' : World} {b : Nat} {L : PTab}
theorem TabIs.lt (h : TabIs w b L) : b < w.heap.size := lt_of_cell (h.ent 0 (by omega))
theorem TabIs.turned {S : Nat → Prop} (h : TabIs w b L) (t : Turn S w w') (hb : ¬ S b) : TabIs w' b L :=
  ⟨fun i hi => (t.cell (a := ⟨b, i * 2, none⟩) h.lt hb).trans (h.ent i hi), fun i hi => (t.cell (a := ⟨b, i * 2 + 1, none⟩) h.lt hb).trans (h.mark i hi), fun i => (t.frozen (a := ⟨b, i, none⟩) h.lt hb).trans (h.fz i), h.pos⟩
theorem leastFrom_zero (f i : Nat) (h : (L i).1 = 0) : leastFrom L (f + 1) i = i := if_pos h
theorem leastFrom_next (f i : Nat) (h : (L i).1 ≠ 0) : leastFrom L (f + 1) i = leastFrom L f (i + 1) := if_neg h
theorem leastFrom_spec : ∀ (f i : Nat), leastFrom L f i = -1 ∨ ∃ k : Nat, leastFrom L f i = k ∧ i ≤ k ∧ k < i + f ∧ (L k).1 = 0
  | 0, i => .inl rfl
  | f + 1, i => by
    by_cases h : (L i).1 = 0
    · exact .inr ⟨i, leastFrom_zero f i h, Nat.le_refl _, by omega, h⟩
    · rw [leastFrom_next f i h]
      rcases leastFrom_spec f (i + 1) with h1 | ⟨k, h1, h2, h3, h4⟩
      · exact .inl h1
      · exact .inr ⟨k, h1, by omega, by omega, h4⟩
theorem leastL_spec (L : PTab) : leastL L = -1 ∨ ∃ k : Nat, leastL L = k ∧ k < 8 ∧ (L k).1 = 0 := by
  rcases leastFrom_spec (L := L) 8 0 with h | ⟨k, h1, h2, h3, h4⟩
  · exact .inl h
  · exact .inr ⟨k, h1, by omega, h4⟩
theorem usedFrom_le : ∀ (f i : Nat), usedFrom L f i ≤ f
  | 0, _ => Nat.le_refl _
  | f + 1, i => by
    have := usedFrom_le f (i + 1)
    show (if _ then 1 else 0) + _ ≤ _
    split <;> omega
theorem usedL_le (L : PTab) : usedL L ≤ 8 := usedFrom_le 8 0

/-! ### least -/
theorem free_is (w : World) (a : Int) (c : Bool) : Calls Tryd.prog 172 #[.agg #[.int .i64 a, .bool c]] w fun e w' => e = .returned (.bool (decide (a = 0))) ∧ Turn (fun _ => False) w w' := by
  go_enter Tryd.func172, Tryd.ntmps172
  go_wp2_with fail
  go_ret
  exact ⟨rfl, (Turn.refl _ _).alloc _⟩
set_option maxHeartbeats 1000000 in
theorem indexFunc_is (h : TabIs w b L) : Calls Tryd.prog 171 #[.slice (some ⟨b, 0, none⟩) 8 8, .func (.func 172) #[] #[]] w fun e w' => e = .returned (.int .i64 (leastL L)) ∧ Turn (fun _ => False) w w' := by
  have H := hid h
  obtain ⟨R, hR⟩ : ∃ R, leastL L = R := ⟨_, rfl⟩
  rw [hR]
  have HR := hid hR
  clear h hR
  go_enter Tryd.func171, Tryd.ntmps171
  go_wp2_with fail
  go_loopg [8] 8 (fun gl i wr => ∃ k : Nat, k + gl = 8 ∧ i = .int .i64 k ∧ Hid (leastFrom L gl k = R) ∧ Turn (fun _ => False) w wr)
  case atStart => exact ⟨0, by omega, rfl, HR, Turn.refl _ _⟩
  case round =>
    obtain ⟨k, hk, rfl, hf, ht⟩ := hrel
    by_cases hk8 : k < 8
    · have hk' : (k : Int) < 8 := by omega
      obtain ⟨g, rfl⟩ : ∃ g, gk = g + 1 := ⟨7 - k, by omega⟩
      have h' := H.out.turned ht id
      have c1 := h'.ent k hk8
      have c2 := h'.mark k hk8
      have HT := hid ht
      have HF : Hid ((L k).1 = 0 → R = k) := fun e => by rw [← hf.out, leastFrom_zero g k e]
      have HN : Hid ((L k).1 ≠ 0 → leastFrom L g (k + 1) = R) := fun e => by rw [← hf.out, leastFrom_next g k e]
      clear h' ht hf
      go_wp2_with (go_at_call 172; refine (free_is _ _ _).mono ?_; rintro e w' ⟨rfl, ht'⟩; have HT' := hid (HT.out.trans ht'); clear ht'; by_cases hz : (L k).1 = 0)
      · go_ret
        exact ⟨ret_int (HF.out hz).symm, HT'.out⟩
      · go_roundg g
        case measure => omega
        case rel => exact ⟨k + 1, by omega, by go_num, hid (HN.out hz), HT'.out⟩
    · have hk' : ¬ (k : Int) < 8 := by omega
      obtain rfl : k = 8 := by omega
      obtain rfl : gk = 0 := by omega
      have HF : Hid (-1 = R) := hf
      have HT := hid ht
      clear hf ht
      go_wp2_with fail
      go_ret
      exact ⟨ret_int HF.out, HT.out⟩
theorem least_is (h : TabIs w b L) : Calls Tryd.prog 129 #[.pointer (some ⟨b, 0, none⟩)] w fun e w' => e = .returned (.int .i64 (leastL L)) ∧ Turn (fun _ => False) w w' := by
  have H := hid h
  clear h
  go_enter Tryd.func129, Tryd.ntmps129
  go_wp2_with (go_at_call 171; refine (indexFunc_is H.out).mono ?_; rintro e w' ⟨rfl, ht'⟩)
  go_ret
  exact ⟨rfl, ht'⟩
/-! ### Used -/
theorem idx0 (x0 x1 x2 x3 x4 x5 x6 x7 : Int) (y0 y1 y2 y3 y4 y5 y6 y7 : Bool) (w : World) : (Instr.index 123 (.agg #[.int .i64 x0, .bool y0, .int .i64 x1, .bool y1, .int .i64 x2, .bool y2, .int .i64 x3, .bool y3, .int .i64 x4, .bool y4, .int .i64 x5, .bool y5, .int .i64 x6, .bool y6, .int .i64 x7, .bool y7]) (.int .i64 0)).run Tryd.prog w = .ok (.agg #[.int .i64 x0, .bool y0]) w := by kernel_rfl
theorem idx1 (x0 x1 x2 x3 x4 x5 x6 x7 : Int) (y0 y1 y2 y3 y4 y5 y6 y7 : Bool) (w : World) : (Instr.index 123 (.agg #[.int .i64 x0, .bool y0, .int .i64 x1, .bool y1, .int .i64 x2, .bool y2, .int .i64 x3, .bool y3, .int .i64 x4, .bool y4, .int .i64 x5, .bool y5, .int .i64 x6, .bool y6, .int .i64 x7, .bool y7]) (.int .i64 1)).run Tryd.prog w = .ok (.agg #[.int .i64 x1, .bool y1]) w := by kernel_rfl
theorem idx2 (x0 x1 x2 x3 x4 x5 x6 x7 : Int) (y0 y1 y2 y3 y4 y5 y6 y7 : Bool) (w : World) : (Instr.index 123 (.agg #[.int .i64 x0, .bool y0, .int .i64 x1, .bool y1, .int .i64 x2, .bool y2, .int .i64 x3, .bool y3, .int .i64 x4, .bool y4, .int .i64 x5, .bool y5, .int .i64 x6, .bool y6, .int .i64 x7, .bool y7]) (.int .i64 2)).run Tryd.prog w = .ok (.agg #[.int .i64 x2, .bool y2]) w := by kernel_rfl
theorem idx3 (x0 x1 x2 x3 x4 x5 x6 x7 : Int) (y0 y1 y2 y3 y4 y5 y6 y7 : Bool) (w : World) : (Instr.index 123 (.agg #[.int .i64 x0, .bool y0, .int .i64 x1, .bool y1, .int .i64 x2, .bool y2, .int .i64 x3, .bool y3, .int .i64 x4, .bool y4, .int .i64 x5, .bool y5, .int .i64 x6, .bool y6, .int .i64 x7, .bool y7]) (.int .i64 3)).run Tryd.prog w = .ok (.agg #[.int .i64 x3, .bool y3]) w := by kernel_rfl
theorem idx4 (x0 x1 x2 x3 x4 x5 x6 x7 : Int) (y0 y1 y2 y3 y4 y5 y6 y7 : Bool) (w : World) : (Instr.index 123 (.agg #[.int .i64 x0, .bool y0, .int .i64 x1, .bool y1, .int .i64 x2, .bool y2, .int .i64 x3, .bool y3, .int .i64 x4, .bool y4, .int .i64 x5, .bool y5, .int .i64 x6, .bool y6, .int .i64 x7, .bool y7]) (.int .i64 4)).run Tryd.prog w = .ok (.agg #[.int .i64 x4, .bool y4]) w := by kernel_rfl
theorem idx5 (x0 x1 x2 x3 x4 x5 x6 x7 : Int) (y0 y1 y2 y3 y4 y5 y6 y7 : Bool) (w : World) : (Instr.index 123 (.agg #[.int .i64 x0, .bool y0, .int .i64 x1, .bool y1, .int .i64 x2, .bool y2, .int .i64 x3, .bool y3, .int .i64 x4, .bool y4, .int .i64 x5, .bool y5, .int .i64 x6, .bool y6, .int .i64 x7, .bool y7]) (.int .i64 5)).run Tryd.prog w = .ok (.agg #[.int .i64 x5, .bool y5]) w := by kernel_rfl
theorem idx6 (x0 x1 x2 x3 x4 x5 x6 x7 : Int) (y0 y1 y2 y3 y4 y5 y6 y7 : Bool) (w : World) : (Instr.index 123 (.agg #[.int .i64 x0, .bool y0, .int .i64 x1, .bool y1, .int .i64 x2, .bool y2, .int .i64 x3, .bool y3, .int .i64 x4, .bool y4, .int .i64 x5, .bool y5, .int .i64 x6, .bool y6, .int .i64 x7, .bool y7]) (.int .i64 6)).run Tryd.prog w = .ok (.agg #[.int .i64 x6, .bool y6]) w := by kernel_rfl
theorem idx7 (x0 x1 x2 x3 x4 x5 x6 x7 : Int) (y0 y1 y2 y3 y4 y5 y6 y7 : Bool) (w : World) : (Instr.index 123 (.agg #[.int .i64 x0, .bool y0, .int .i64 x1, .bool y1, .int .i64 x2, .bool y2, .int .i64 x3, .bool y3, .int .i64 x4, .bool y4, .int .i64 x5, .bool y5, .int .i64 x6, .bool y6, .int .i64 x7, .bool y7]) (.int .i64 7)).run Tryd.prog w = .ok (.agg #[.int .i64 x7, .bool y7]) w := by kernel_rfl
end
end Go.Proofs.YtiohpmcedfbcgabDoor
