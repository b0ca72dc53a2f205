/- slices.MaxFunc over candidates, and oom.Victim. Conditions: each theorem's own premises. -/
import Derived.Test.YtiohpmcedfbcgaaOom
namespace Go.Proofs.Ytiohpmcedfbcgaa
open Go.RowKit
set_option linter.unusedVariables false

theorem keepSix {W w1 w2 : World} {a0 a1 a2 a3 a4 a5 : Addr} {v0 v1 v2 v3 v4 v5 : Value} (t : Turn (fun _ => False) w1 w2)
    (h : Turn (fun _ => False) W w1 ∧ w1.cell? a0 = some v0 ∧ w1.cell? a1 = some v1 ∧ w1.cell? a2 = some v2 ∧ w1.cell? a3 = some v3 ∧ w1.cell? a4 = some v4 ∧ w1.cell? a5 = some v5) :
    Turn (fun _ => False) W w2 ∧ w2.cell? a0 = some v0 ∧ w2.cell? a1 = some v1 ∧ w2.cell? a2 = some v2 ∧ w2.cell? a3 = some v3 ∧ w2.cell? a4 = some v4 ∧ w2.cell? a5 = some v5 := by
  obtain ⟨ht, h0, h1, h2, h3, h4, h5⟩ := h
  exact ⟨ht.trans t, (t.cell (lt_of_cell h0) id).trans h0, (t.cell (lt_of_cell h1) id).trans h1, (t.cell (lt_of_cell h2) id).trans h2, (t.cell (lt_of_cell h3) id).trans h3, (t.cell (lt_of_cell h4) id).trans h4, (t.cell (lt_of_cell h5) id).trans h5⟩

def i64x3 (a b c : Int) : Array Value := #[.int .i64 a, .int .i64 b, .int .i64 c]
/-- The state of MaxFunc's loop: what was there is as it was; its own two variables lie in two new blocks; the second one holds the best so far. -/
structure MaxRel (w wr : World) (m : Cd) : Prop where
  turn : Turn (fun _ => False) w wr
  res : wr.heap[w.heap.size]? = some (.cells (i64x3 0 0 0) 38 (0, 0))
  best : wr.heap[w.heap.size + 1]? = some (.cells (i64x3 m.1 m.2.1 m.2.2) 38 (0, 0))

theorem MaxRel.cells {w wr : World} {m : Cd} (h : MaxRel w wr m) : wr.cell? ⟨w.heap.size + 1, 0, none⟩ = some (.int .i64 m.1) ∧ wr.cell? ⟨w.heap.size + 1, 1, none⟩ = some (.int .i64 m.2.1) ∧ wr.cell? ⟨w.heap.size + 1, 2, none⟩ = some (.int .i64 m.2.2) := by
  refine ⟨?_, ?_, ?_⟩ <;> (rw [cell_of_row _ _ _ _ _ _ h.best]; rfl)
theorem MaxRel.after {w wr w1 : World} {m : Cd} (h : MaxRel w wr m) (t : Turn (fun _ => False) wr w1) : MaxRel w w1 m := by
  have hs : w.heap.size + 1 < wr.heap.size := (Array.getElem?_eq_some_iff.1 h.best).1
  exact ⟨h.turn.trans t, (t.block _ (by omega) id).trans h.res, (t.block _ hs id).trans h.best⟩
theorem MaxRel.start (w : World) (m : Cd) : MaxRel w ((w.alloc (.cells #[.int .i64 0, .int .i64 0, .int .i64 0] 38)).alloc (.cells #[.int .i64 m.1, .int .i64 m.2.1, .int .i64 m.2.2] 38)) m :=
  ⟨((Turn.refl _ _).alloc _).alloc _, heap_alloc2_old _ _ _, heap_alloc2_new _ _ _⟩
theorem MaxRel.stored {w wr : World} {m : Cd} (h : MaxRel w wr m) (c : Cd) : MaxRel w (((wr.setCell ⟨w.heap.size + 1, 0, none⟩ (.int .i64 c.1)).setCell ⟨w.heap.size + 1, 1, none⟩ (.int .i64 c.2.1)).setCell ⟨w.heap.size + 1, 2, none⟩ (.int .i64 c.2.2)) c := by
  have hlt : ¬ (w.heap.size + 1 < w.heap.size) := by omega
  refine ⟨((h.turn.setCell _ _ (fun e => absurd e hlt)).setCell _ _ (fun e => absurd e hlt)).setCell _ _ (fun e => absurd e hlt), ?_, ?_⟩
  · rw [heap_setCell_other _ _ _ _ (by show w.heap.size ≠ w.heap.size + 1; omega), heap_setCell_other _ _ _ _ (by show w.heap.size ≠ w.heap.size + 1; omega), heap_setCell_other _ _ _ _ (by show w.heap.size ≠ w.heap.size + 1; omega)]
    exact h.res
  · exact heap_setCell_same _ _ _ _ _ _ (heap_setCell_same _ _ _ _ _ _ (heap_setCell_same _ _ _ _ _ _ h.best))
theorem MaxRel.frozen {w wr : World} {m : Cd} (h : MaxRel w wr m) : ∀ j, wr.frozen? ⟨w.heap.size + 1, j, none⟩ = false := fun j => frozen_of_row _ _ _ _ _ h.best

theorem oBest_take (x0 : Cd) (xs : List Cd) (j : Nat) (c : Cd) (h : xs[j]? = some c) : oBest x0 (xs.take (j + 1)) = if 0 < cdCmp c (oBest x0 (xs.take j)) then c else oBest x0 (xs.take j) := by
  unfold oBest
  rw [List.take_add_one, h]
  simp [List.foldl_append]

theorem info_cand : (Try.prog.info? 38).map (·.size) = some 3 := by kernel_rfl

set_option maxHeartbeats 4000000 in
set_option maxRecDepth 100000 in
theorem max_any (b off cap : Nat) (x0 : Cd) (xs : List Cd) (w : World) (hc : CandsAt w b off (x0 :: xs)) (hl : xs.length < 1000000) (hb : b < w.heap.size) :
    Calls Try.prog 34 #[.slice (some ⟨b, off, none⟩) (xs.length + 1) cap, .func (.func 35) #[] #[]] w fun e w' => e = .returned (candV (oBest x0 xs)) ∧ Turn (fun _ => False) w w' := by
  have h0 := hc 0 x0 rfl
  simp only [Nat.zero_mul, Nat.add_zero] at h0
  obtain ⟨c0, c1, c2⟩ := h0
  have HC := hid hc
  clear hc
  go_enter Try.func34, Try.ntmps34
  go_wp2_with fail
  go_loopw [6] (fun i wr => ∃ j : Nat, j ≤ xs.length ∧ i = .int .i64 ((j : Int) + 1) ∧ MaxRel w wr (oBest x0 (xs.take j))) (fun i _ => xs.length + 1 - (intOf i).toNat)
  case atStart => exact ⟨0, Nat.zero_le _, rfl, MaxRel.start w x0⟩
  case round =>
    clear c0 c1 c2
    obtain ⟨j, hj, rfl, hR⟩ := hrel
    by_cases hlt : j < xs.length
    · obtain ⟨c, hcj⟩ : ∃ c, xs[j]? = some c := ⟨_, List.getElem?_eq_getElem hlt⟩
      have ht := oBest_take x0 xs j c hcj
      generalize oBest x0 (xs.take j) = m at hR ht
      obtain ⟨d0, d1, d2⟩ := HC.out.turned hR.turn hb id (j + 1) c (by simpa using hcj)
      obtain ⟨e0, e1, e2⟩ := hR.cells
      have HT := hid ht
      have HR := hid hR
      have HJ := hid hcj
      clear ht hR hcj
      go_wp2_with fail
      have q0 : (0 : Int) ≤ (j : Int) + 1 := by omega
      have q1 : (j : Int) + 1 < ((xs.length + 1 : Nat) : Int) := by omega
      have q2 : ((j : Int) + 1).toNat = j + 1 := by omega
      go_region_held3 (fun w' => Turn (fun _ => False) wr w' ∧ w'.cell? ⟨b, off + (j + 1) * 3, none⟩ = some (.int .i64 c.1) ∧ w'.cell? ⟨b, off + (j + 1) * 3 + 1, none⟩ = some (.int .i64 c.2.1) ∧ w'.cell? ⟨b, off + (j + 1) * 3 + 2, none⟩ = some (.int .i64 c.2.2) ∧ w'.cell? ⟨w.heap.size + 1, 0, none⟩ = some (.int .i64 m.1) ∧ w'.cell? ⟨w.heap.size + 1, 1, none⟩ = some (.int .i64 m.2.1) ∧ w'.cell? ⟨w.heap.size + 1, 2, none⟩ = some (.int .i64 m.2.2))
        (first | exact keepSix t1 (by assumption) | exact ⟨(Turn.refl _ _).drew, d0, d1, d2, e0, e1, e2⟩ | assumption | go_keep)
        (first | (go_at_call 35; refine (order_any _ _ _ _ _ _ _).mono ?_; rintro e w1 ⟨rfl, t1⟩))
      clear q0 q1 q2
      have HR1 := hid (HR.out.after ((‹Turn (fun _ => False) wr _ ∧ _›).1))
      obtain ⟨f0, f1, f2⟩ := HR1.out.cells
      have fz := HR1.out.frozen
      obtain ⟨g0, g1, g2⟩ := (‹Turn (fun _ => False) wr _ ∧ _›).2
      by_cases hgt : 0 < cdCmp c m
      · have hgt' : 0 < oCmp c.1 c.2.1 c.2.2 m.1 m.2.1 m.2.2 := hgt
        go_wp2_with fail
        go_roundw
        case rel => exact ⟨j + 1, by omega, by go_num, by rw [HT.out, if_pos hgt]; exact HR1.out.stored c⟩
        case measure => simp [intOf]; omega
      · have hgt' : oCmp c.1 c.2.1 c.2.2 m.1 m.2.1 m.2.2 ≤ 0 := by unfold cdCmp at hgt; omega
        go_wp2_with fail
        go_roundw
        case rel => exact ⟨j + 1, by omega, by go_num, by rw [HT.out, if_neg hgt]; exact HR1.out⟩
        case measure => simp [intOf]; omega
    · have hj' : j = xs.length := by omega
      subst hj'
      rw [List.take_length] at hR
      obtain ⟨e0, e1, e2⟩ := hR.cells
      have r0 : ∀ k, wr.cell? ⟨w.heap.size, k, none⟩ = (i64x3 0 0 0)[k]? := fun k => cell_of_row _ _ _ _ _ _ hR.res
      have s0 := r0 0
      have s1 := r0 1
      have s2 := r0 2
      have z0 : ∀ k, wr.frozen? ⟨w.heap.size, k, none⟩ = false := fun k => frozen_of_row _ _ _ _ _ hR.res
      have HR := hid hR
      clear r0 hR
      simp only [i64x3] at s0 s1 s2
      go_wp2_with fail
      refine bodyPost_ret (v := candV (oBest x0 xs)) (results_cell_row Try.results34 _ _ w.heap.size 38 #[.int .i64 (oBest x0 xs).1, .int .i64 (oBest x0 xs).2.1, .int .i64 (oBest x0 xs).2.2] (0, 0) _ rfl ?_ Try.underlying38 rfl info_cand) rfl ⟨rfl, ?_⟩
      · exact heap_setCell_same _ _ _ _ _ _ (heap_setCell_same _ _ _ _ _ _ (heap_setCell_same _ _ _ _ _ _ HR.out.res))
      · have hlt' : ¬ (w.heap.size < w.heap.size) := by omega
        exact ((HR.out.turn.setCell _ _ (fun e => absurd e hlt')).setCell _ _ (fun e => absurd e hlt')).setCell _ _ (fun e => absurd e hlt')

/-- Who goes, of candidates. -/
def oVictim : List Cd → Int × Bool
  | [] => (0, false)
  | x :: xs => if oScore (oBest x xs).2.1 (oBest x xs).2.2 = 0 then (0, false) else ((oBest x xs).1, true)

theorem victim_none (a : Option Addr) (cap : Nat) (w : World) : Calls Try.prog 16 #[.slice a 0 cap] w fun e w' => e = .returned (.tuple #[.int .i64 0, .bool false]) ∧ w = w' := by
  go_enter Try.func16, Try.ntmps16
  go_wp2
  go_ret2
  exact ⟨rfl, rfl⟩

set_option maxHeartbeats 1000000 in
set_option maxRecDepth 100000 in
theorem victim_some (b off cap : Nat) (x0 : Cd) (xs : List Cd) (w : World) (hc : CandsAt w b off (x0 :: xs)) (hl : xs.length < 1000000) (hb : b < w.heap.size) :
    Calls Try.prog 16 #[.slice (some ⟨b, off, none⟩) (xs.length + 1) cap] w fun e w' => e = .returned (.tuple #[.int .i64 (oVictim (x0 :: xs)).1, .bool (oVictim (x0 :: xs)).2]) ∧ Turn (fun _ => False) w w' := by
  by_cases h : oScore (oBest x0 xs).2.1 (oBest x0 xs).2.2 = 0
  · have hv : Hid (oVictim (x0 :: xs) = (0, false)) := hid (by simp [oVictim, h])
    have h1 : (oScore (oBest x0 xs).2.1 (oBest x0 xs).2.2 == 0) = true := beq_iff_eq.2 h
    clear h
    go_enter Try.func16, Try.ntmps16
    go_wp2_with fail
    refine (max_any b off cap x0 xs w hc hl hb).mono ?_
    rintro e w1 ⟨rfl, t1⟩
    unfold candV
    generalize oBest x0 xs = m at h1
    go_wp2_with fail
    refine (score_any _ _ _ _).mono ?_
    rintro e w2 ⟨rfl, t2⟩
    go_wp2_with fail
    go_ret2
    rw [hv.out]
    exact ⟨rfl, (t1.alloc _).trans t2⟩
  · have hv : Hid (oVictim (x0 :: xs) = ((oBest x0 xs).1, true)) := hid (by simp [oVictim, h])
    have h1 : (oScore (oBest x0 xs).2.1 (oBest x0 xs).2.2 == 0) = false := beq_eq_false_iff_ne.2 h
    clear h
    go_enter Try.func16, Try.ntmps16
    go_wp2_with fail
    refine (max_any b off cap x0 xs w hc hl hb).mono ?_
    rintro e w1 ⟨rfl, t1⟩
    unfold candV
    generalize oBest x0 xs = m at h1 hv
    go_wp2_with fail
    refine (score_any _ _ _ _).mono ?_
    rintro e w2 ⟨rfl, t2⟩
    have hz : w1.heap.size < w2.heap.size := by have := t2.size; simp at this; omega
    have hc0 : w2.cell? ⟨w1.heap.size, 0, none⟩ = some (.int .i64 m.1) := (t2.cell (a := ⟨w1.heap.size, 0, none⟩) (by simp) id).trans (World.cell?_alloc_new _ _ _ _)
    go_wp2_with fail
    go_ret2
    rw [hv.out]
    exact ⟨rfl, (t1.alloc _).trans t2⟩

end Go.Proofs.Ytiohpmcedfbcgaa
