/- The contracts of package acct: a ledger lies in one block: how much there is of three kinds, and how much may be. Conditions: each theorem's own premises. -/
import Derived.Test.YtiohpmcedfbcgaaDoorProg
import Derived.Test.YtiohpmcedfbcgaaDoorBase
import Derived.Deep.QuietTactic
import Derived.BigQuiet
import Derived.BigRegion
import Derived.Outline
namespace Go.Proofs.YtiohpmcedfbcgaaDoor
open Go.RowKit
set_option linter.unusedVariables false

structure LedgerIs (w : World) (p : Nat) (u m : Nat → Int) : Prop where
  cu : ∀ k, k < 3 → w.cell? ⟨p, k, none⟩ = some (.int .i64 (u k))
  cm : ∀ k, k < 3 → w.cell? ⟨p, 3 + k, none⟩ = some (.int .i64 (m k))
  fz : ∀ i, w.frozen? ⟨p, i, none⟩ = false
theorem LedgerIs.lt {w : World} {p : Nat} {u m : Nat → Int} (h : LedgerIs w p u m) : p < w.heap.size := lt_of_cell (h.cu 0 (by decide))
theorem LedgerIs.turned {w w' : World} {p : Nat} {u m : Nat → Int} {S : Nat → Prop} (h : LedgerIs w p u m) (t : Turn S w w') (hn : ¬ S p) : LedgerIs w' p u m :=
  ⟨fun k hk => (t.cell (a := ⟨p, k, none⟩) h.lt hn).trans (h.cu k hk), fun k hk => (t.cell (a := ⟨p, 3 + k, none⟩) h.lt hn).trans (h.cm k hk), fun i => (t.frozen (a := ⟨p, i, none⟩) h.lt hn).trans (h.fz i)⟩
/-- How much there is, and may be, is within bounds. -/
def Fit (u m : Nat → Int) : Prop := ∀ k, k < 3 → 0 ≤ u k ∧ u k ≤ 1000000 ∧ 0 ≤ m k ∧ m k ≤ 1000000
def upd (f : Nat → Int) (k : Nat) (n : Int) : Nat → Int := fun j => if j = k then n else f j
theorem upd_same (f : Nat → Int) (k : Nat) (n : Int) : upd f k n k = n := by simp [upd]
theorem upd_other (f : Nat → Int) {k j : Nat} (n : Int) (h : j ≠ k) : upd f k n j = f j := by simp [upd, h]

theorem LedgerIs.setMost {w : World} {p : Nat} {u m : Nat → Int} (h : LedgerIs w p u m) (k : Nat) (hk : k < 3) (n : Int) : LedgerIs (w.setCell ⟨p, 3 + k, none⟩ (.int .i64 n)) p u (upd m k n) := by
  refine ⟨fun j hj => ?_, fun j hj => ?_, fun i => by rw [World.frozen?_setCell]; exact h.fz i⟩
  · rw [World.cell?_setCell_other _ _ _ _ (by intro e; injection e with _ e; omega)]; exact h.cu j hj
  · by_cases e : j = k
    · subst e; rw [upd_same]; exact World.cell?_setCell_same _ _ _ (h.cm j hj)
    · rw [World.cell?_setCell_other _ _ _ _ (by intro e; injection e with _ e; omega), upd_other _ _ e]; exact h.cm j hj

theorem right_yes (k : Nat) (hk : k < 3) (w : World) : Calls Tryd.prog 45 #[.int .i64 k] w fun e w' => e = .returned (.bool true) ∧ w = w' := by
  have h1 : (0 : Int) ≤ k := by omega
  have h2 : (k : Int) < 3 := by omega
  go_enter Tryd.func45, Tryd.ntmps45
  go_wp2
  go_ret
  exact ⟨rfl, rfl⟩
theorem right_no (k : Int) (hk : k < 0 ∨ 3 ≤ k) (w : World) : Calls Tryd.prog 45 #[.int .i64 k] w fun e w' => e = .returned (.bool false) ∧ w = w' := by
  rcases hk with h1 | h1
  · have h2 : decide (0 ≤ k) = false := by rw [decide_eq_false_iff_not]; omega
    go_enter Tryd.func45, Tryd.ntmps45
    go_wp2
    go_ret
    exact ⟨rfl, rfl⟩
  · have h2 : 0 ≤ k := by omega
    have h3 : decide (k < 3) = false := by rw [decide_eq_false_iff_not]; omega
    go_enter Tryd.func45, Tryd.ntmps45
    go_wp2
    go_ret
    exact ⟨rfl, rfl⟩

theorem limit_arg {w : World} (p : Nat) (k n : Int) (hk : k < 0 ∨ 3 ≤ k) : Calls Tryd.prog 18 #[.pointer (some ⟨p, 0, none⟩), .int .i64 k, .int .i64 n] w fun e w' => e = .returned (.iface 34 (.int .i64 1)) ∧ w = w' := by
  have H := hid (right_no k hk)
  clear hk
  go_enter Tryd.func18, Tryd.ntmps18
  go_wp2_with fail
  refine (H.out w).mono ?_
  rintro e w' ⟨rfl, rfl⟩
  go_wp2_with fail
  go_ret
  exact ⟨rfl, rfl⟩
theorem limit_range {w : World} (p k : Nat) (n : Int) (hk : k < 3) (hn : n < 0 ∨ 1000000 < n) : Calls Tryd.prog 18 #[.pointer (some ⟨p, 0, none⟩), .int .i64 k, .int .i64 n] w fun e w' => e = .returned (.iface 34 (.int .i64 2)) ∧ w = w' := by
  have H := hid (right_yes k hk)
  rcases hn with h1 | h1
  · go_enter Tryd.func18, Tryd.ntmps18
    go_wp2_with fail
    refine (H.out w).mono ?_
    rintro e w' ⟨rfl, rfl⟩
    go_wp2_with fail
    go_ret
    exact ⟨rfl, rfl⟩
  · have h2 : ¬ n < 0 := by omega
    go_enter Tryd.func18, Tryd.ntmps18
    go_wp2_with fail
    refine (H.out w).mono ?_
    rintro e w' ⟨rfl, rfl⟩
    go_wp2_with fail
    go_ret
    exact ⟨rfl, rfl⟩
theorem limit_ok {w : World} {p : Nat} {u m : Nat → Int} (h : LedgerIs w p u m) (k : Nat) (n : Int) (hk : k < 3) (h0 : 0 ≤ n) (h1 : n ≤ 1000000) : Calls Tryd.prog 18 #[.pointer (some ⟨p, 0, none⟩), .int .i64 k, .int .i64 n] w fun e w' => e = .returned .nilIface ∧ LedgerIs w' p u (upd m k n) ∧ Turn (fun j => j = p) w w' := by
  have H := hid (right_yes k hk)
  have hc := h.cm k hk
  have hf := h.fz (3 + k)
  have hk' : (k : Int) < 3 := by omega
  have HL := hid h
  clear h
  go_enter Tryd.func18, Tryd.ntmps18
  go_wp2_with fail
  refine (H.out w).mono ?_
  rintro e w' ⟨rfl, rfl⟩
  go_wp2_with fail
  go_ret
  exact ⟨rfl, HL.out.setMost k hk n, (Turn.refl _ _).setCell _ _ (fun _ => rfl)⟩

theorem used_no {w : World} (p : Nat) (k : Int) (hk : k < 0 ∨ 3 ≤ k) : Calls Tryd.prog 19 #[.pointer (some ⟨p, 0, none⟩), .int .i64 k] w fun e w' => e = .returned (.int .i64 0) ∧ w = w' := by
  have H := hid (right_no k hk)
  clear hk
  go_enter Tryd.func19, Tryd.ntmps19
  go_wp2_with fail
  refine (H.out w).mono ?_
  rintro e w' ⟨rfl, rfl⟩
  go_wp2_with fail
  go_ret
  exact ⟨rfl, rfl⟩
theorem used_is {w : World} {p : Nat} {u m : Nat → Int} (h : LedgerIs w p u m) (k : Nat) (hk : k < 3) : Calls Tryd.prog 19 #[.pointer (some ⟨p, 0, none⟩), .int .i64 k] w fun e w' => e = .returned (.int .i64 (u k)) ∧ w = w' := by
  have H := hid (right_yes k hk)
  have hc := h.cu k hk
  have hk' : (k : Int) < 3 := by omega
  clear h
  go_enter Tryd.func19, Tryd.ntmps19
  go_wp2_with fail
  refine (H.out w).mono ?_
  rintro e w' ⟨rfl, rfl⟩
  go_wp2_with fail
  go_ret
  exact ⟨rfl, rfl⟩
theorem most_no {w : World} (p : Nat) (k : Int) (hk : k < 0 ∨ 3 ≤ k) : Calls Tryd.prog 20 #[.pointer (some ⟨p, 0, none⟩), .int .i64 k] w fun e w' => e = .returned (.int .i64 0) ∧ w = w' := by
  have H := hid (right_no k hk)
  clear hk
  go_enter Tryd.func20, Tryd.ntmps20
  go_wp2_with fail
  refine (H.out w).mono ?_
  rintro e w' ⟨rfl, rfl⟩
  go_wp2_with fail
  go_ret
  exact ⟨rfl, rfl⟩
theorem most_is {w : World} {p : Nat} {u m : Nat → Int} (h : LedgerIs w p u m) (k : Nat) (hk : k < 3) : Calls Tryd.prog 20 #[.pointer (some ⟨p, 0, none⟩), .int .i64 k] w fun e w' => e = .returned (.int .i64 (m k)) ∧ w = w' := by
  have H := hid (right_yes k hk)
  have hc := h.cm k hk
  have hk' : (k : Int) < 3 := by omega
  clear h
  go_enter Tryd.func20, Tryd.ntmps20
  go_wp2_with fail
  refine (H.out w).mono ?_
  rintro e w' ⟨rfl, rfl⟩
  go_wp2_with fail
  go_ret
  exact ⟨rfl, rfl⟩
end Go.Proofs.YtiohpmcedfbcgaaDoor
