/- Package oom: who goes. The contracts of score, of the order, of MaxFunc over it, and of Victim. Conditions: each theorem's own premises. -/
import Derived.Test.YtiohpmcedfbcgaaProg
import Derived.Test.YtiohpmcedfbcgaaBase
import Derived.BigRegion
import Derived.Deep.RegionHeld3
namespace Go.Proofs.Ytiohpmcedfbcgaa
open Go.RowKit
set_option linter.unusedVariables false

/-- The weight of a candidate. -/
def oScore (r a : Int) : Int := max (min (max r 0) 1000 * (100 + min (max a (-100)) 100)) 0
theorem oScore_nonneg (r a : Int) : 0 ≤ oScore r a := by unfold oScore; omega

set_option maxHeartbeats 1000000 in
set_option maxRecDepth 100000 in
theorem score_any (p r a : Int) (w : World) :
    Calls Try.prog 38 #[.agg #[.int .i64 p, .int .i64 r, .int .i64 a]] w fun e w' => e = .returned (.int .i64 (oScore r a)) ∧ Turn (fun _ => False) w w' := by
  go_enter Try.func38, Try.ntmps38
  go_wp2
  go_region
  generalize hR : (if 1000 < (if r < 0 then 0 else r) then (1000 : Int) else if r < 0 then 0 else r) = R
  generalize hA : (if 100 < (if a < -100 then -100 else a) then (100 : Int) else if a < -100 then -100 else a) = A
  have hs : Hid (oScore r a = max (R * (100 + A)) 0) := hid (by
    have e1 : min (max r 0) 1000 = R := by omega
    have e2 : min (max a (-100)) 100 = A := by omega
    unfold oScore; rw [e1, e2])
  have hR0 : 0 ≤ R := by omega
  have hR1 : R ≤ 1000 := by omega
  have hA0 : -100 ≤ A := by omega
  have hA1 : A ≤ 100 := by omega
  clear hR hA
  have hp0 : 0 ≤ R * (100 + A) := Int.mul_nonneg hR0 (by omega)
  have hp1 : R * (100 + A) ≤ 200000 := by
    have := Int.mul_le_mul (a := R) (b := 100 + A) (c := 1000) (d := 200) hR1 (by omega) (by omega) (by omega)
    omega
  go_wp2
  all_goals go_ret
  all_goals exact ⟨ret_int (by rw [hs.out]; omega), ((Turn.refl _ _).alloc _).drew⟩

def cmpI (x y : Int) : Int := if x < y then -1 else if y < x then 1 else 0

theorem isNaN_any (x : Int) (w : World) : Calls Try.prog 49 #[.int .i64 x] w fun e w' => e = .returned (.bool false) ∧ w = w' := by
  go_enter Try.func49, Try.ntmps49
  go_wp2
  go_ret
  exact ⟨ret_bool (by simp), rfl⟩

set_option maxHeartbeats 400000 in
theorem compare_any (x y : Int) (w : World) : Calls Try.prog 37 #[.int .i64 x, .int .i64 y] w fun e w' => e = .returned (.int .i64 (cmpI x y)) ∧ w = w' := by
  go_enter Try.func37, Try.ntmps37
  go_wp2_with (go_at_call 49; refine (isNaN_any _ _).mono ?_; rintro e w' ⟨rfl, rfl⟩)
  all_goals go_ret
  all_goals exact ⟨ret_int (by unfold cmpI; (repeat' split) <;> omega), rfl⟩

def orI (x y : Int) : Int := if x = 0 then y else x

set_option maxHeartbeats 400000 in
theorem or_any (b : Nat) (x y : Int) (w : World) (h0 : w.cell? ⟨b, 0, none⟩ = some (.int .i64 x)) (h1 : w.cell? ⟨b, 1, none⟩ = some (.int .i64 y)) :
    Calls Try.prog 36 #[.slice (some ⟨b, 0, none⟩) 2 2] w fun e w' => e = .returned (.int .i64 (orI x y)) ∧ w = w' := by
  by_cases hx : x = 0
  · subst hx
    by_cases hy : y = 0
    · subst hy
      go_enter Try.func36, Try.ntmps36
      go_wp2_with fail
      refine wp_loop_rounds 3 ?_
      rw [rounds_succ]
      go_wp2
      rw [rounds_succ]
      go_wp2
      rw [rounds_succ]
      go_wp2
      go_ret
      exact ⟨rfl, rfl⟩
    · have hb : (y != 0) = true := bne_iff_ne.2 hy
      have hv : Hid (y = orI 0 y) := hid (by simp [orI])
      clear hy
      go_enter Try.func36, Try.ntmps36
      go_wp2_with fail
      refine wp_loop_rounds 3 ?_
      rw [rounds_succ]
      go_wp2
      rw [rounds_succ]
      go_wp2
      go_ret
      exact ⟨ret_int hv.out, rfl⟩
  · have hb : (x != 0) = true := bne_iff_ne.2 hx
    have hv : Hid (x = orI x y) := hid (by simp [orI, hx])
    clear hx
    go_enter Try.func36, Try.ntmps36
    go_wp2_with fail
    refine wp_loop_rounds 3 ?_
    rw [rounds_succ]
    go_wp2
    go_ret
    exact ⟨ret_int hv.out, rfl⟩

/-- Who comes first: by weight, then by number. -/
def oCmp (p r a q s b : Int) : Int := orI (cmpI (oScore r a) (oScore s b)) (cmpI p q)

theorem keep6 {W : World} {B : Nat} {w1 w2 : World} {p r a q s b : Value} (t : Turn (fun _ => False) w1 w2)
    (h : Turn (fun _ => False) W w1 ∧ w1.cell? ⟨B, 0, none⟩ = some p ∧ w1.cell? ⟨B, 1, none⟩ = some r ∧ w1.cell? ⟨B, 2, none⟩ = some a ∧ w1.cell? ⟨B + 1, 0, none⟩ = some q ∧ w1.cell? ⟨B + 1, 1, none⟩ = some s ∧ w1.cell? ⟨B + 1, 2, none⟩ = some b) :
    Turn (fun _ => False) W w2 ∧ w2.cell? ⟨B, 0, none⟩ = some p ∧ w2.cell? ⟨B, 1, none⟩ = some r ∧ w2.cell? ⟨B, 2, none⟩ = some a ∧ w2.cell? ⟨B + 1, 0, none⟩ = some q ∧ w2.cell? ⟨B + 1, 1, none⟩ = some s ∧ w2.cell? ⟨B + 1, 2, none⟩ = some b := by
  obtain ⟨ht, h0, h1, h2, h3, h4, h5⟩ := h
  exact ⟨ht.trans t, (t.cell (lt_of_cell h0) id).trans h0, (t.cell (lt_of_cell h1) id).trans h1, (t.cell (lt_of_cell h2) id).trans h2, (t.cell (lt_of_cell h3) id).trans h3, (t.cell (lt_of_cell h4) id).trans h4, (t.cell (lt_of_cell h5) id).trans h5⟩
theorem init6 (w : World) (p r a q s b : Value) (T : TypeId) : Turn (fun _ => False) w ((w.alloc (.cells #[p, r, a] T)).alloc (.cells #[q, s, b] T)).drew ∧ ((w.alloc (.cells #[p, r, a] T)).alloc (.cells #[q, s, b] T)).drew.cell? ⟨w.heap.size, 0, none⟩ = some p ∧
    ((w.alloc (.cells #[p, r, a] T)).alloc (.cells #[q, s, b] T)).drew.cell? ⟨w.heap.size, 1, none⟩ = some r ∧ ((w.alloc (.cells #[p, r, a] T)).alloc (.cells #[q, s, b] T)).drew.cell? ⟨w.heap.size, 2, none⟩ = some a ∧
    ((w.alloc (.cells #[p, r, a] T)).alloc (.cells #[q, s, b] T)).drew.cell? ⟨w.heap.size + 1, 0, none⟩ = some q ∧ ((w.alloc (.cells #[p, r, a] T)).alloc (.cells #[q, s, b] T)).drew.cell? ⟨w.heap.size + 1, 1, none⟩ = some s ∧
    ((w.alloc (.cells #[p, r, a] T)).alloc (.cells #[q, s, b] T)).drew.cell? ⟨w.heap.size + 1, 2, none⟩ = some b := by
  have hz : (w.alloc (.cells #[p, r, a] T)).heap.size = w.heap.size + 1 := World.size_alloc _ _
  have hB : ∀ j, ((w.alloc (.cells #[p, r, a] T)).alloc (.cells #[q, s, b] T)).cell? ⟨w.heap.size + 1, j, none⟩ = (#[q, s, b] : Array Value)[j]? := fun j => by rw [← hz]; exact World.cell?_alloc_new _ _ _ _
  have hA : ∀ j, ((w.alloc (.cells #[p, r, a] T)).alloc (.cells #[q, s, b] T)).cell? ⟨w.heap.size, j, none⟩ = (#[p, r, a] : Array Value)[j]? := fun j => by
    rw [World.cell?_alloc_lt _ _ _ (by show w.heap.size < _; omega)]; exact World.cell?_alloc_new _ _ _ _
  exact ⟨(((Turn.refl _ _).alloc _).alloc _).drew, hA 0, hA 1, hA 2, hB 0, hB 1, hB 2⟩

set_option maxHeartbeats 2000000 in
set_option maxRecDepth 100000 in
theorem order_any (p r a q s b : Int) (w : World) :
    Calls Try.prog 35 #[.agg #[.int .i64 p, .int .i64 r, .int .i64 a], .agg #[.int .i64 q, .int .i64 s, .int .i64 b]] w fun e w' => e = .returned (.int .i64 (oCmp p r a q s b)) ∧ Turn (fun _ => False) w w' := by
  go_enter Try.func35, Try.ntmps35
  go_wp2_with fail
  go_region_held3 (fun w' => Turn (fun _ => False) w w' ∧ w'.cell? ⟨w.heap.size, 0, none⟩ = some (.int .i64 p) ∧ w'.cell? ⟨w.heap.size, 1, none⟩ = some (.int .i64 r) ∧ w'.cell? ⟨w.heap.size, 2, none⟩ = some (.int .i64 a) ∧ w'.cell? ⟨w.heap.size + 1, 0, none⟩ = some (.int .i64 q) ∧ w'.cell? ⟨w.heap.size + 1, 1, none⟩ = some (.int .i64 s) ∧ w'.cell? ⟨w.heap.size + 1, 2, none⟩ = some (.int .i64 b)) (first | exact init6 _ _ _ _ _ _ _ _ | exact keep6 t1 (by assumption) | (exact keep6 ((Turn.refl _ _).alloc _) (by assumption)) | assumption | go_keep)
    (first | (go_at_call 38; refine (score_any _ _ _ _).mono ?_; rintro e w1 ⟨rfl, t1⟩) | (go_at_call 37; refine (compare_any _ _ _).mono ?_; rintro e w1 ⟨rfl, rfl⟩) | (go_at_call 36; refine (or_any _ _ _ _ (World.cell?_alloc_new _ _ _ 0) (World.cell?_alloc_new _ _ _ 1)).mono ?_; rintro e w1 ⟨rfl, rfl⟩))
  go_wp2
  go_ret
  exact ⟨rfl, (‹Turn (fun _ => False) w _ ∧ _›).1⟩

/-- A candidate: number, pages, adjustment. -/
abbrev Cd := Int × Int × Int
def candV (c : Cd) : Value := .agg #[.int .i64 c.1, .int .i64 c.2.1, .int .i64 c.2.2]
/-- The candidates lie, one behind the other, in block b from off on. -/
def CandsAt (w : World) (b off : Nat) (xs : List Cd) : Prop := ∀ i c, xs[i]? = some c →
  w.cell? ⟨b, off + i * 3, none⟩ = some (.int .i64 c.1) ∧ w.cell? ⟨b, off + i * 3 + 1, none⟩ = some (.int .i64 c.2.1) ∧ w.cell? ⟨b, off + i * 3 + 2, none⟩ = some (.int .i64 c.2.2)
def cdCmp (x y : Cd) : Int := oCmp x.1 x.2.1 x.2.2 y.1 y.2.1 y.2.2
def oBest (m : Cd) (l : List Cd) : Cd := l.foldl (fun m x => if 0 < cdCmp x m then x else m) m

theorem CandsAt.turned {w w' : World} {b off : Nat} {xs : List Cd} {S : Nat → Prop} (h : CandsAt w b off xs) (t : Turn S w w') (hb : b < w.heap.size) (hn : ¬ S b) : CandsAt w' b off xs := fun i c hc =>
  ⟨(t.cell (a := ⟨b, _, none⟩) hb hn).trans (h i c hc).1, (t.cell (a := ⟨b, _, none⟩) hb hn).trans (h i c hc).2.1, (t.cell (a := ⟨b, _, none⟩) hb hn).trans (h i c hc).2.2⟩

end Go.Proofs.Ytiohpmcedfbcgaa
