/- The document's ledger: in, Limit, Charge; and acct's Limit in one piece. Conditions: each theorem's own premises. -/
import Derived.Test.YtiohpmcedfbcgaaDoorCharge
import Derived.Deep.LoopGhost
import Derived.Handy
import Derived.Outline
import Derived.Deep.DeepCutAuto
namespace Go.Proofs.YtiohpmcedfbcgaaDoor
open Go.RowKit
set_option linter.unusedVariables false

theorem in_yes (n lo hi : Int) (h1 : lo ≤ n) (h2 : n ≤ hi) (w : World) : Calls Tryd.prog 48 #[.int .i64 n, .int .i64 lo, .int .i64 hi] w fun e w' => e = .returned (.bool true) ∧ w = w' := by
  go_enter Tryd.func48, Tryd.ntmps48
  go_wp2
  go_ret
  exact ⟨rfl, rfl⟩
theorem in_no (n lo hi : Int) (h : ¬ (lo ≤ n ∧ n ≤ hi)) (w : World) : Calls Tryd.prog 48 #[.int .i64 n, .int .i64 lo, .int .i64 hi] w fun e w' => e = .returned (.bool false) ∧ w = w' := by
  by_cases h1 : lo ≤ n
  · have h2 : decide (n ≤ hi) = false := decide_eq_false (fun h2 => h ⟨h1, h2⟩)
    clear h
    go_enter Tryd.func48, Tryd.ntmps48
    go_wp2
    go_ret
    exact ⟨rfl, rfl⟩
  · have h2 : decide (lo ≤ n) = false := decide_eq_false h1
    clear h
    go_enter Tryd.func48, Tryd.ntmps48
    go_wp2
    go_ret
    exact ⟨rfl, rfl⟩

/-- An Errno as an error: nil for 0. -/
def errA (z : Int) : Value := if z = 0 then .nilIface else .iface 34 (.int .i64 z)
/-- What Limit tells, and how much may be then. -/
def limR (m : Nat → Int) (k n : Int) : Int × (Nat → Int) :=
  if k < 0 ∨ 3 ≤ k then (1, m) else if n < 0 ∨ 1000000 < n then (2, m) else (0, upd m k.toNat n)
theorem limR_fit {u m : Nat → Int} (h : Fit u m) (k n : Int) : Fit u (limR m k n).2 := by
  unfold limR
  split
  · exact h
  · split
    · exact h
    · rename_i h1 h2
      intro j hj
      obtain ⟨a, b, c, d⟩ := h j hj
      simp only
      by_cases e : j = k.toNat
      · rw [e, upd_same]; subst e; exact ⟨a, b, by omega, by omega⟩
      · rw [upd_other _ _ e]; exact ⟨a, b, c, d⟩

theorem limit_any {w : World} {p : Nat} {u m : Nat → Int} (h : LedgerIs w p u m) (k n : Int) :
    Calls Tryd.prog 18 #[.pointer (some ⟨p, 0, none⟩), .int .i64 k, .int .i64 n] w fun e w' => e = .returned (errA (limR m k n).1) ∧ LedgerIs w' p u (limR m k n).2 ∧ Turn (fun j => j = p) w w' := by
  by_cases hk : k < 0 ∨ 3 ≤ k
  · have e : limR m k n = (1, m) := by unfold limR; rw [if_pos hk]
    rw [e]
    refine (limit_arg p k n hk).mono ?_
    rintro e w' ⟨rfl, rfl⟩
    exact ⟨rfl, h, Turn.refl _ _⟩
  · obtain ⟨kk, rfl⟩ : ∃ kk : Nat, k = kk := ⟨k.toNat, by omega⟩
    by_cases hn : n < 0 ∨ 1000000 < n
    · have e : limR m kk n = (2, m) := by unfold limR; rw [if_neg hk, if_pos hn]
      rw [e]
      refine (limit_range p kk n (by omega) hn).mono ?_
      rintro e w' ⟨rfl, rfl⟩
      exact ⟨rfl, h, Turn.refl _ _⟩
    · have e : limR m kk n = (0, upd m kk n) := by unfold limR; rw [if_neg hk, if_neg hn]; rfl
      rw [e]
      exact limit_ok h kk n (by omega) (by omega) (by omega)

theorem refLimit_any {w : World} {p : Nat} {u m : Nat → Int} (h : LedgerIs w p u m) (k n : Int) :
    Calls Tryd.prog 29 #[.pointer (some ⟨p, 0, none⟩), .int .i64 k, .int .i64 n] w fun e w' => e = .returned (.int .i64 (limR m k n).1) ∧ LedgerIs w' p u (limR m k n).2 ∧ Turn (fun j => j = p) w w' := by
  have H := hid h
  by_cases hk : k < 0 ∨ 3 ≤ k
  · have e : limR m k n = (1, m) := by unfold limR; rw [if_pos hk]
    rw [e]
    have HI := hid (in_no k 0 2 (by omega))
    clear h hk
    go_enter Tryd.func29, Tryd.ntmps29
    go_wp2_with fail
    refine (HI.out w).mono ?_
    rintro e w' ⟨rfl, rfl⟩
    go_wp2_with fail
    go_ret
    exact ⟨rfl, H.out, Turn.refl _ _⟩
  · obtain ⟨kk, rfl⟩ : ∃ kk : Nat, k = kk := ⟨k.toNat, by omega⟩
    have HI := hid (in_yes kk 0 2 (by omega) (by omega))
    by_cases hn : n < 0 ∨ 1000000 < n
    · have e : limR m kk n = (2, m) := by unfold limR; rw [if_neg hk, if_pos hn]
      rw [e]
      have HJ := hid (in_no n 0 1000000 (by omega))
      clear h hk hn
      go_enter Tryd.func29, Tryd.ntmps29
      go_wp2_with fail
      refine (HI.out w).mono ?_
      rintro e w' ⟨rfl, rfl⟩
      go_wp2_with fail
      refine (HJ.out _).mono ?_
      rintro e w' ⟨rfl, rfl⟩
      go_wp2_with fail
      go_ret
      exact ⟨rfl, H.out, Turn.refl _ _⟩
    · have e : limR m kk n = (0, upd m kk n) := by unfold limR; rw [if_neg hk, if_neg hn]; rfl
      rw [e]
      have HJ := hid (in_yes n 0 1000000 (by omega) (by omega))
      have hk3 : kk < 3 := by omega
      have hk3' : (kk : Int) < 3 := by omega
      have hc := h.cm kk hk3
      have hf := h.fz (3 + kk)
      clear h hk hn
      go_enter Tryd.func29, Tryd.ntmps29
      go_wp2_with fail
      refine (HI.out w).mono ?_
      rintro e w' ⟨rfl, rfl⟩
      go_wp2_with fail
      refine (HJ.out _).mono ?_
      rintro e w' ⟨rfl, rfl⟩
      go_wp2_with fail
      go_ret
      exact ⟨rfl, H.out.setMost kk hk3 n, turn_set1 _ _ _ _⟩

theorem LedgerIs.setSix {w : World} {p : Nat} {u m : Nat → Int} (h : LedgerIs w p u m) (v : Nat → Int) :
    LedgerIs ((((((w.setCell ⟨p, 0, none⟩ (.int .i64 (v 0))).setCell ⟨p, 1, none⟩ (.int .i64 (v 1))).setCell ⟨p, 2, none⟩ (.int .i64 (v 2))).setCell ⟨p, 3, none⟩ (.int .i64 (m 0))).setCell ⟨p, 4, none⟩ (.int .i64 (m 1))).setCell ⟨p, 5, none⟩ (.int .i64 (m 2))) p v m := by
  have h1 := ((((h.setAll v).setMost 0 (by decide) (m 0)).setMost 1 (by decide) (m 1)).setMost 2 (by decide) (m 2))
  refine ⟨h1.cu, fun k hk => ?_, h1.fz⟩
  rw [h1.cm k hk]
  match k, hk with
  | 0, _ => simp [upd]
  | 1, _ => simp [upd]
  | 2, _ => simp [upd]
theorem turn_setSix (w : World) (p : Nat) (a b c d e f : Value) : Turn (fun j => j = p) w ((((((w.setCell ⟨p, 0, none⟩ a).setCell ⟨p, 1, none⟩ b).setCell ⟨p, 2, none⟩ c).setCell ⟨p, 3, none⟩ d).setCell ⟨p, 4, none⟩ e).setCell ⟨p, 5, none⟩ f) :=
  (((((turn_set1 w p 0 a).trans (turn_set1 _ p 1 b)).trans (turn_set1 _ p 2 c)).trans (turn_set1 _ p 3 d)).trans (turn_set1 _ p 4 e)).trans (turn_set1 _ p 5 f)

/-- The variable almshouseref.Fine holds what the program's text lays: no error, no place. -/
def FineIs (w : World) : Prop := w.cell? ⟨0, 0, none⟩ = some (.int .i64 0) ∧ w.cell? ⟨0, 1, none⟩ = some (.int .i64 (-1))
theorem FineIs.turned {S : Nat → Prop} {w w1 : World} (h : FineIs w) (t : Turn S w w1) (hn : ¬ S 0) : FineIs w1 :=
  ⟨(t.cell (a := ⟨0, 0, none⟩) (lt_of_cell h.1) hn).trans h.1, (t.cell (a := ⟨0, 1, none⟩) (lt_of_cell h.2) hn).trans h.2⟩

def RefBad (m u : Nat → Int) (xs : List (Int × Int)) (w : World) (e : Ending) (w' : World) : Prop :=
  ∃ (er : Int) (i : Nat), chg m u xs 0 = .inl (er, i) ∧ e = .returned (.agg #[.int .i64 er, .int .i64 i]) ∧ Turn (fun _ => False) w w'
def RefGood (q : Nat) (m u : Nat → Int) (xs : List (Int × Int)) (w : World) (e : Ending) (w' : World) : Prop :=
  ∃ v, chg m u xs 0 = .inr v ∧ Fit v m ∧ e = .returned (.agg #[.int .i64 0, .int .i64 (-1)]) ∧ LedgerIs w' q v m ∧ Turn (fun j => j = q) w w'
def RefRes (q : Nat) (m u : Nat → Int) (xs : List (Int × Int)) (w : World) (e : Ending) (w' : World) : Prop := RefGood q m u xs w e w' ∨ RefBad m u xs w e w'

theorem results_fault {tmps : Array Value} {w : World} {b : Nat} {x y : Value} (ht : tmps[4]?.getD undef = .pointer (some ⟨b, 0, none⟩)) (h0 : w.cell? ⟨b, 0, none⟩ = some x) (h1 : w.cell? ⟨b, 1, none⟩ = some y) :
    (results Tryd.f31 tmps).run Tryd.prog w = .ok (.agg #[x, y]) w := by
  simp [results, Tryd.results31, ht, go_sem, h0, h1]
theorem two_set0 {w : World} {b n : Nat} {o : Obj} {x0 y0 : Value} (h0 : w.cell? ⟨b, 0, none⟩ = some x0) (h1 : w.cell? ⟨b, 1, none⟩ = some y0) (x y : Value) :
    ((((w.alloc o).drewN n).setCell ⟨b, 0, none⟩ x).setCell ⟨b, 1, none⟩ y).cell? ⟨b, 0, none⟩ = some x ∧ ((((w.alloc o).drewN n).setCell ⟨b, 0, none⟩ x).setCell ⟨b, 1, none⟩ y).cell? ⟨b, 1, none⟩ = some y := by
  have hb : b < w.heap.size := lt_of_cell h0
  have g0 : ((w.alloc o).drewN n).cell? ⟨b, 0, none⟩ = some x0 := (World.cell?_alloc_lt w o ⟨b, 0, none⟩ hb).trans h0
  have g1 : ((w.alloc o).drewN n).cell? ⟨b, 1, none⟩ = some y0 := (World.cell?_alloc_lt w o ⟨b, 1, none⟩ hb).trans h1
  refine ⟨?_, ?_⟩
  · rw [World.cell?_setCell_other _ _ _ _ (by simp)]
    exact World.cell?_setCell_same _ _ _ g0
  · exact World.cell?_setCell_same _ _ _ (by rw [World.cell?_setCell_other _ _ _ _ (by simp)]; exact g1)
theorem two_set1 {w : World} {b : Nat} {x0 y0 : Value} (g0 : w.cell? ⟨b, 0, none⟩ = some x0) (g1 : w.cell? ⟨b, 1, none⟩ = some y0) (x y : Value) :
    ((w.setCell ⟨b, 0, none⟩ x).setCell ⟨b, 1, none⟩ y).cell? ⟨b, 0, none⟩ = some x ∧ ((w.setCell ⟨b, 0, none⟩ x).setCell ⟨b, 1, none⟩ y).cell? ⟨b, 1, none⟩ = some y := by
  refine ⟨?_, ?_⟩
  · rw [World.cell?_setCell_other _ _ _ _ (by simp)]
    exact World.cell?_setCell_same _ _ _ g0
  · exact World.cell?_setCell_same _ _ _ (by rw [World.cell?_setCell_other _ _ _ _ (by simp)]; exact g1)
theorem two_set {w : World} {b : Nat} {x0 y0 : Value} (h0 : w.cell? ⟨b, 0, none⟩ = some x0) (h1 : w.cell? ⟨b, 1, none⟩ = some y0) (x y : Value) (o : Obj) :
    (((w.setCell ⟨b, 0, none⟩ x).setCell ⟨b, 1, none⟩ y).alloc o).cell? ⟨b, 0, none⟩ = some x ∧ (((w.setCell ⟨b, 0, none⟩ x).setCell ⟨b, 1, none⟩ y).alloc o).cell? ⟨b, 1, none⟩ = some y := by
  have hb : b < w.heap.size := lt_of_cell h0
  refine ⟨?_, ?_⟩
  · rw [World.cell?_alloc_lt _ _ _ (by simpa using hb), World.cell?_setCell_other _ _ _ _ (by simp)]
    exact World.cell?_setCell_same _ _ _ h0
  · rw [World.cell?_alloc_lt _ _ _ (by simpa using hb)]
    exact World.cell?_setCell_same _ _ _ (by rw [World.cell?_setCell_other _ _ _ _ (by simp)]; exact h1)

set_option maxHeartbeats 8000000 in
set_option maxRecDepth 100000 in
theorem refCharge_any {w : World} {q : Nat} {u m : Nat → Int} (h : LedgerIs w q u m) (hfine : FineIs w) (hq : ¬ q = 0) (hf : Fit u m) (a : Option Addr) (xs : List (Int × Int)) (cap : Nat) (hl : xs.length ≤ 1000000)
    (hc : xs ≠ [] → ∃ b off, a = some ⟨b, off, none⟩ ∧ AsksAt w b off xs ∧ b < w.heap.size) :
    Calls Tryd.prog 31 #[.pointer (some ⟨q, 0, none⟩), .slice a xs.length cap] w (RefRes q m u xs w) := by
  have HL := hid h
  have HF := hid hf
  have HC := hid hc
  have HFi := hid hfine
  have c0 := h.cu 0 (by decide)
  have c1 := h.cu 1 (by decide)
  have c2 := h.cu 2 (by decide)
  have c3 := h.cm 0 (by decide)
  have c4 := h.cm 1 (by decide)
  have c5 := h.cm 2 (by decide)
  have hqw : q < w.heap.size := h.lt
  have hfw : 0 < w.heap.size := lt_of_cell hfine.1
  have T0 : Turn (fun _ => False) w (w.alloc (.cells #[.int .i64 0, .int .i64 0] 74)) := (Turn.refl _ _).alloc _
  have hsz : (w.alloc (.cells #[.int .i64 0, .int .i64 0] 74)).heap.size = w.heap.size + 1 := World.size_alloc _ _
  have HN : Hid (LedgerIs ((w.alloc (.cells #[.int .i64 0, .int .i64 0] 74)).alloc (.cells #[.int .i64 (u 0), .int .i64 (u 1), .int .i64 (u 2), .int .i64 (m 0), .int .i64 (m 1), .int .i64 (m 2)] 69)) (w.heap.size + 1) u m) := hid (by
    rw [← hsz]
    exact ⟨fun k hk => by
      match k, hk with
      | 0, _ => simp
      | 1, _ => simp
      | 2, _ => simp, fun k hk => by
      match k, hk with
      | 0, _ => simp
      | 1, _ => simp
      | 2, _ => simp, fun i => by simp⟩)
  have HT0 : Hid (Turn (fun _ => False) w ((w.alloc (.cells #[.int .i64 0, .int .i64 0] 74)).alloc (.cells #[.int .i64 (u 0), .int .i64 (u 1), .int .i64 (u 2), .int .i64 (m 0), .int .i64 (m 1), .int .i64 (m 2)] 69))) := hid (T0.alloc _)
  have hr0 : ((w.alloc (.cells #[.int .i64 0, .int .i64 0] 74)).alloc (.cells #[.int .i64 (u 0), .int .i64 (u 1), .int .i64 (u 2), .int .i64 (m 0), .int .i64 (m 1), .int .i64 (m 2)] 69)).cell? ⟨w.heap.size, 0, none⟩ = some (.int .i64 0) := by
    rw [World.cell?_alloc_lt _ _ _ (by simp)]; simp
  have hr1 : ((w.alloc (.cells #[.int .i64 0, .int .i64 0] 74)).alloc (.cells #[.int .i64 (u 0), .int .i64 (u 1), .int .i64 (u 2), .int .i64 (m 0), .int .i64 (m 1), .int .i64 (m 2)] 69)).cell? ⟨w.heap.size, 1, none⟩ = some (.int .i64 0) := by
    rw [World.cell?_alloc_lt _ _ _ (by simp)]; simp
  clear h hf hc hfine T0 hsz
  go_enter Tryd.func31, Tryd.ntmps31
  go_wp2_with fail
  go_loopg [14] (xs.length) (fun g i wr => ∃ (j : Nat) (v : Nat → Int), j + g = xs.length ∧ i = .int .i64 j ∧ Hid (chg m u (xs.take j) 0 = .inr v) ∧ Hid (Fit v m) ∧ Hid (LedgerIs wr (w.heap.size + 1) v m) ∧ Hid (Turn (fun _ => False) w wr) ∧ wr.cell? ⟨w.heap.size, 0, none⟩ = some (.int .i64 0) ∧ wr.cell? ⟨w.heap.size, 1, none⟩ = some (.int .i64 0) ∧ wr.frozen? ⟨w.heap.size, 0, none⟩ = false ∧ wr.frozen? ⟨w.heap.size, 1, none⟩ = false)
  case atStart => exact ⟨0, u, by omega, rfl, hid rfl, HF, HN, HT0, hr0, hr1, by rw [World.frozen?_alloc_old _ _ _ (by simp)]; simp, by rw [World.frozen?_alloc_old _ _ _ (by simp)]; simp⟩
  case round =>
    clear HN HT0 hr0 hr1 c0 c1 c2 c3 c4 c5
    obtain ⟨j, v, hj, rfl, hR, hF, hN, hT, hr0, hr1, hz0, hz1⟩ := hrel
    by_cases hlt : j < xs.length
    · obtain ⟨x, hx⟩ : ∃ x, xs[j]? = some x := ⟨_, List.getElem?_eq_getElem hlt⟩
      obtain ⟨b, off, rfl, hA, hb⟩ := HC.out (by rintro rfl; simp at hlt)
      obtain ⟨d0, d1⟩ := hA.turned hT.out hb id j _ hx
      obtain ⟨k, n⟩ := x
      simp only at d0 d1
      have HX := hid hx
      have hlt' : (j : Int) < xs.length := by omega
      have hrw : w.heap.size < wr.heap.size := lt_of_cell hr0
      have hnw : w.heap.size + 1 < wr.heap.size := hN.out.lt
      clear hA hx
      have HB : Hid (∀ er, er ≠ 0 → why v m (k, n) = er → chg m u xs 0 = .inl (er, j)) := hid (fun er h0 he => by
        have e1 : xs = xs.take j ++ (k, n) :: xs.drop (j + 1) := by
          obtain ⟨_, h2⟩ := List.getElem?_eq_some_iff.1 HX.out
          rw [← h2, List.getElem_cons_drop]; simp
        have h3 := chg_snoc m _ u v 0 ((k, n) :: xs.drop (j + 1)) hR.out
        rw [← e1] at h3
        rw [h3]
        simp only [chg]
        rw [if_neg (by rw [he]; exact h0), he]
        congr 2
        rw [List.length_take]; omega)
      by_cases hk : k < 0 ∨ 3 ≤ k
      · have HW := hid (HB.out 1 (by decide) (by unfold why; rw [if_pos hk]))
        have HRt := hid (in_no k 0 2 (by omega))
        clear hk
        go_wp2_with fail
        refine (HRt.out _).mono ?_
        rintro e w1 ⟨rfl, rfl⟩
        go_wp2_with fail
        (try simp only [Exit.inBlock, Exit.then])
        refine bodyPost_ret (results_fault rfl (two_set hr0 hr1 (.int .i64 1) (.int .i64 j) _).1 (two_set hr0 hr1 (.int .i64 1) (.int .i64 j) _).2) rfl ?_
        exact .inr ⟨_, j, HW.out, rfl, ((hT.out.setCell _ _ (fun h => absurd h (Nat.lt_irrefl _))).setCell _ _ (fun h => absurd h (Nat.lt_irrefl _))).alloc _⟩
      · obtain ⟨kk, rfl⟩ : ∃ kk : Nat, k = kk := ⟨k.toNat, by omega⟩
        have hk3 : kk < 3 := by omega
        have hk3' : (kk : Int) < 3 := by omega
        have HK := hid hk
        have HRt := hid (in_yes kk 0 2 (by omega) (by omega))
        have n0 := hN.out.cu kk hk3
        have nf := hN.out.fz kk
        have m0 := (HL.out.turned hT.out id).cm kk hk3
        obtain ⟨f1, f2, f3, f4⟩ := hF.out kk hk3
        clear hk
        by_cases hr : n < -1000000 ∨ 1000000 < n
        · have HW := hid (HB.out 2 (by decide) (by unfold why; rw [if_neg HK.out, if_pos hr]))
          have HRn := hid (in_no n (-1000000) 1000000 (by omega))
          clear hr
          go_wp2_with fail
          refine (HRt.out _).mono ?_
          rintro e w1 ⟨rfl, rfl⟩
          go_wp2_with fail
          refine (HRn.out _).mono ?_
          rintro e w1 ⟨rfl, rfl⟩
          go_wp2_with fail
          (try simp only [Exit.inBlock, Exit.then])
          refine bodyPost_ret (results_fault rfl (two_set hr0 hr1 (.int .i64 2) (.int .i64 j) _).1 (two_set hr0 hr1 (.int .i64 2) (.int .i64 j) _).2) rfl ?_
          exact .inr ⟨_, j, HW.out, rfl, ((hT.out.setCell _ _ (fun h => absurd h (Nat.lt_irrefl _))).setCell _ _ (fun h => absurd h (Nat.lt_irrefl _))).alloc _⟩
        · have HR := hid hr
          have HRn := hid (in_yes n (-1000000) 1000000 (by omega) (by omega))
          have hs : IntKind.i64.wrap (v kk + n) = v kk + n := IntWalk.i64_in _ (by omega)
          have HS := hid hs
          have hq1 : q < wr.heap.size := by omega
          clear hs hr
          by_cases hov : 0 < n ∧ m kk < v kk + n
          · have HW := hid (HB.out 4 (by decide) (by unfold why; rw [if_neg HK.out, if_neg HR.out, if_pos (by simpa using hov)]))
            obtain ⟨o1, o2⟩ := hov
            have hs := HS.out
            go_wp2_with fail
            refine (HRt.out _).mono ?_
            rintro e w1 ⟨rfl, rfl⟩
            go_wp2_with fail
            refine (HRn.out _).mono ?_
            rintro e w1 ⟨rfl, rfl⟩
            go_wp2_with fail
            go_quiet (fail)
            go_wp2_with fail
            go_quiet (fail)
            go_wp2_with fail
            (try simp only [Exit.inBlock, Exit.then])
            refine bodyPost_ret (results_fault rfl (two_set0 hr0 hr1 (.int .i64 4) (.int .i64 j)).1 (two_set0 hr0 hr1 (.int .i64 4) (.int .i64 j)).2) rfl ?_
            exact .inr ⟨_, j, HW.out, rfl, (((hT.out.alloc _).drewN _).setCell _ _ (fun h => absurd h (Nat.lt_irrefl _))).setCell _ _ (fun h => absurd h (Nat.lt_irrefl _))⟩
          · have HO := hid hov
            by_cases hneg : v kk + n < 0
            · have hn0 : decide (0 < n) = false := by rw [decide_eq_false_iff_not]; omega
              have hn1 : ¬ 0 < n := by omega
              have HW := hid (HB.out 6 (by decide) (by unfold why; rw [if_neg HK.out, if_neg HR.out, if_neg (by simpa using hov), if_pos (by simpa using hneg)]))
              clear hov
              have hs := HS.out
              go_wp2_with fail
              refine (HRt.out _).mono ?_
              rintro e w1 ⟨rfl, rfl⟩
              go_wp2_with fail
              refine (HRn.out _).mono ?_
              rintro e w1 ⟨rfl, rfl⟩
              go_wp2_with fail
              go_quiet (fail)
              go_wp2_with fail
              go_quiet (fail)
              go_wp2_with fail
              (try simp only [Exit.inBlock, Exit.then])
              refine bodyPost_ret (results_fault rfl (two_set0 hr0 hr1 (.int .i64 6) (.int .i64 j)).1 (two_set0 hr0 hr1 (.int .i64 6) (.int .i64 j)).2) rfl ?_
              exact .inr ⟨_, j, HW.out, rfl, (((hT.out.alloc _).drewN _).setCell _ _ (fun h => absurd h (Nat.lt_irrefl _))).setCell _ _ (fun h => absurd h (Nat.lt_irrefl _))⟩
            · have HW0 : Hid (why v m ((kk : Int), n) = 0) := hid (by unfold why; rw [if_neg HK.out, if_neg HR.out, if_neg (by simpa using hov), if_neg (by simpa using hneg)])
              by_cases hn1 : 0 < n
              · have hle : ¬ m kk < v kk + n := fun h => hov ⟨hn1, h⟩
                clear hov
                have hs := HS.out
                go_wp2_with fail
                refine (HRt.out _).mono ?_
                rintro e w1 ⟨rfl, rfl⟩
                go_wp2_with fail
                refine (HRn.out _).mono ?_
                rintro e w1 ⟨rfl, rfl⟩
                go_wp2_with fail
                go_quiet (fail)
                go_wp2_with fail
                go_quiet (fail)
                go_wp2_with fail
                have T2 : ∀ n', Turn (fun _ => False) wr ((wr.alloc (.cells #[.int .i64 (kk : Int), .int .i64 n] 71)).drewN n') := fun n' => ((Turn.refl _ _).alloc _).drewN n'
                go_roundg (gk - 1)
                case measure => omega
                case rel =>
                  refine ⟨j + 1, done v ((kk : Int), n), by omega, by go_num, hid ?_, hid (fit_done hF.out HW0.out), hid ((hN.out.turned (T2 _) id).setUsed kk hk3 (v kk + n)), hid ((hT.out.trans (T2 _)).setCell _ _ (fun h => absurd h (by simp only; omega))), ?_, ?_, ?_, ?_⟩
                  · rw [List.take_add_one, HX.out]
                    have h3 := chg_snoc m _ u v 0 [((kk : Int), n)] hR.out
                    simp only [chg] at h3
                    rw [if_pos HW0.out] at h3
                    exact h3
                  · rw [World.cell?_setCell_other _ _ _ _ (by intro e; injection e with e; omega)]; exact ((T2 _).cell (a := ⟨w.heap.size, 0, none⟩) hrw id).trans hr0
                  · rw [World.cell?_setCell_other _ _ _ _ (by intro e; injection e with e; omega)]; exact ((T2 _).cell (a := ⟨w.heap.size, 1, none⟩) hrw id).trans hr1
                  · rw [World.frozen?_setCell]; exact ((T2 _).frozen (a := ⟨w.heap.size, 0, none⟩) hrw id).trans hz0
                  · rw [World.frozen?_setCell]; exact ((T2 _).frozen (a := ⟨w.heap.size, 1, none⟩) hrw id).trans hz1
              · have hn0 : decide (0 < n) = false := by rw [decide_eq_false_iff_not]; omega
                clear hov
                have hs := HS.out
                go_wp2_with fail
                refine (HRt.out _).mono ?_
                rintro e w1 ⟨rfl, rfl⟩
                go_wp2_with fail
                refine (HRn.out _).mono ?_
                rintro e w1 ⟨rfl, rfl⟩
                go_wp2_with fail
                go_quiet (fail)
                go_wp2_with fail
                go_quiet (fail)
                go_wp2_with fail
                have T2 : ∀ n', Turn (fun _ => False) wr ((wr.alloc (.cells #[.int .i64 (kk : Int), .int .i64 n] 71)).drewN n') := fun n' => ((Turn.refl _ _).alloc _).drewN n'
                go_roundg (gk - 1)
                case measure => omega
                case rel =>
                  refine ⟨j + 1, done v ((kk : Int), n), by omega, by go_num, hid ?_, hid (fit_done hF.out HW0.out), hid ((hN.out.turned (T2 _) id).setUsed kk hk3 (v kk + n)), hid ((hT.out.trans (T2 _)).setCell _ _ (fun h => absurd h (by simp only; omega))), ?_, ?_, ?_, ?_⟩
                  · rw [List.take_add_one, HX.out]
                    have h3 := chg_snoc m _ u v 0 [((kk : Int), n)] hR.out
                    simp only [chg] at h3
                    rw [if_pos HW0.out] at h3
                    exact h3
                  · rw [World.cell?_setCell_other _ _ _ _ (by intro e; injection e with e; omega)]; exact ((T2 _).cell (a := ⟨w.heap.size, 0, none⟩) hrw id).trans hr0
                  · rw [World.cell?_setCell_other _ _ _ _ (by intro e; injection e with e; omega)]; exact ((T2 _).cell (a := ⟨w.heap.size, 1, none⟩) hrw id).trans hr1
                  · rw [World.frozen?_setCell]; exact ((T2 _).frozen (a := ⟨w.heap.size, 0, none⟩) hrw id).trans hz0
                  · rw [World.frozen?_setCell]; exact ((T2 _).frozen (a := ⟨w.heap.size, 1, none⟩) hrw id).trans hz1
    · have hje : j = xs.length := by omega
      subst hje
      rw [List.take_length] at hR
      have n0 := hN.out.cu 0 (by decide)
      have n1 := hN.out.cu 1 (by decide)
      have n2 := hN.out.cu 2 (by decide)
      have n3 := hN.out.cm 0 (by decide)
      have n4 := hN.out.cm 1 (by decide)
      have n5 := hN.out.cm 2 (by decide)
      have HLw := HL.out.turned hT.out id
      have l0 := HLw.cu 0 (by decide)
      have l1 := HLw.cu 1 (by decide)
      have l2 := HLw.cu 2 (by decide)
      have l3 := HLw.cm 0 (by decide)
      have l4 := HLw.cm 1 (by decide)
      have l5 := HLw.cm 2 (by decide)
      have z0 := HLw.fz 0
      have z1 := HLw.fz 1
      have z2 := HLw.fz 2
      have z3 := HLw.fz 3
      have z4 := HLw.fz 4
      have z5 := HLw.fz 5
      have HLW := hid HLw
      have HFw := HFi.out.turned hT.out id
      have fi0 := HFw.1
      have fi1 := HFw.2
      clear HLw HFw
      have hrw : w.heap.size < wr.heap.size := lt_of_cell hr0
      have T6 := turn_setSix wr q (.int .i64 (v 0)) (.int .i64 (v 1)) (.int .i64 (v 2)) (.int .i64 (m 0)) (.int .i64 (m 1)) (.int .i64 (m 2))
      have HL6 := hid (HLW.out.setSix v)
      have r0 := (T6.cell (a := ⟨w.heap.size, 0, none⟩) hrw (by simp only; omega)).trans hr0
      have r1 := (T6.cell (a := ⟨w.heap.size, 1, none⟩) hrw (by simp only; omega)).trans hr1
      have y0 := (T6.frozen (a := ⟨w.heap.size, 0, none⟩) hrw (by simp only; omega)).trans hz0
      have y1 := (T6.frozen (a := ⟨w.heap.size, 1, none⟩) hrw (by simp only; omega)).trans hz1
      have F6 := (HFi.out.turned hT.out id).turned T6 (fun h => hq h.symm)
      have HT6 := hid ((hT.out.mono (S' := fun j => j = q) fun _ _ h => h.elim).trans T6)
      go_upto_region 17 with fail
      clear hr0 hr1 hz0 hz1 l0 l1 l2 l3 l4 l5 z0 z1 z2 z3 z4 z5 n0 n1 n2 n3 n4 n5 fi0 fi1 T6 HLW
      generalize (((((wr.setCell ⟨q, 0, none⟩ (.int .i64 (v 0))).setCell ⟨q, 1, none⟩ (.int .i64 (v 1))).setCell ⟨q, 2, none⟩ (.int .i64 (v 2))).setCell ⟨q, 3, none⟩ (.int .i64 (m 0))).setCell ⟨q, 4, none⟩ (.int .i64 (m 1))).setCell ⟨q, 5, none⟩ (.int .i64 (m 2)) = W6 at *
      obtain ⟨fi0, fi1⟩ := F6
      go_wp2_with fail
      (try simp only [Exit.inBlock, Exit.then])
      refine bodyPost_ret (results_fault rfl (two_set1 r0 r1 (.int .i64 0) (.int .i64 (-1))).1 (two_set1 r0 r1 (.int .i64 0) (.int .i64 (-1))).2) rfl ?_
      have hqr : ¬ q = w.heap.size := by omega
      exact .inl ⟨v, hR.out, hF.out, rfl, (HL6.out.turned (turn_set1 W6 w.heap.size 0 _) hqr).turned (turn_set1 _ w.heap.size 1 _) hqr, (HT6.out.setCell _ _ (fun h => absurd h (Nat.lt_irrefl _))).setCell _ _ (fun h => absurd h (Nat.lt_irrefl _))⟩
end Go.Proofs.YtiohpmcedfbcgaaDoor
