/- Package buddy: what a pool is in memory; Left. Conditions: each theorem's own premises. -/
import Derived.Test.YtiohpmcedfbcgabGreatDoorIntsDel
import Derived.Test.YtiohpmcedfbcgabGreatDoorMaps
import Derived.Outline
namespace Go.Proofs.YtiohpmcedfbcgabGreatDoor
open Go.RowKit
set_option linter.unusedVariables false

/-- A pool: frames; free blocks, by orders; what is taken, by bases. -/
structure Pl where
  n : Int
  fr : Nat → List Int
  tk : List (Int × Nat)

structure PoolAt (w : World) (p mb : Nat) (vs : Nat → Value) (q : Pl) : Prop where
  c0 : w.cell? ⟨p, 0, none⟩ = some (.int .i64 q.n)
  cf : ∀ k, k < 7 → w.cell? ⟨p, 1 + k, none⟩ = some (vs k)
  fi : ∀ k, k < 7 → IntsAt w (vs k) (q.fr k)
  cm : w.cell? ⟨p, 8, none⟩ = some (.map (some mb))
  mp : MapIs w mb (.int .i64) encI (fun n : Nat => Value.int .i64 (n : Int)) q.tk
  fz : ∀ i, w.frozen? ⟨p, i, none⟩ = false
  ap : ∀ k j, k < 7 → j < 7 → k ≠ j → ∀ g, (vs k).ownBlock = some g → (vs j).ownBlock ≠ some g
  nm : p ≠ mb
  np : ∀ k, k < 7 → ∀ g, (vs k).ownBlock = some g → g ≠ p ∧ g ≠ mb

def Foot (p mb : Nat) (vs : Nat → Value) (k : Nat) : Prop := k = p ∨ k = mb ∨ ∃ j, j < 7 ∧ (vs j).ownBlock = some k

theorem PoolAt.lt {w : World} {p mb : Nat} {vs : Nat → Value} {q : Pl} (h : PoolAt w p mb vs q) : p < w.heap.size := lt_of_cell h.c0

theorem PoolAt.turned {S : Nat → Prop} {w w' : World} {p mb : Nat} {vs : Nat → Value} {q : Pl} (h : PoolAt w p mb vs q) (t : Turn S w w') (hn : ∀ k, Foot p mb vs k → ¬ S k) : PoolAt w' p mb vs q :=
  ⟨(t.cell (a := ⟨p, 0, none⟩) h.lt (hn p (.inl rfl))).trans h.c0,
   fun k hk => (t.cell (a := ⟨p, 1 + k, none⟩) h.lt (hn p (.inl rfl))).trans (h.cf k hk),
   fun k hk => (h.fi k hk).turned t (fun g hg => hn g (.inr (.inr ⟨k, hk, hg⟩))),
   (t.cell (a := ⟨p, 8, none⟩) h.lt (hn p (.inl rfl))).trans h.cm,
   h.mp.turned t (hn mb (.inr (.inl rfl))),
   fun i => (t.frozen (a := ⟨p, i, none⟩) h.lt (hn p (.inl rfl))).trans (h.fz i),
   h.ap, h.nm, h.np⟩

def updV (vs : Nat → Value) (k : Nat) (v : Value) : Nat → Value := fun j => if j = k then v else vs j
def updF (fr : Nat → List Int) (k : Nat) (l : List Int) : Nat → List Int := fun j => if j = k then l else fr j

theorem PoolAt.swap {w w1 : World} {p mb : Nat} {vs : Nat → Value} {q : Pl} (h : PoolAt w p mb vs q) (k : Nat) (hk : k < 7) (t : Turn (fun j => (vs k).ownBlock = some j) w w1) (v' : Value) (ys : List Int) (hi : IntsAt w1 v' ys)
    (ho : ∀ g, v'.ownBlock = some g → (vs k).ownBlock = some g ∨ w.heap.size ≤ g) :
    PoolAt (w1.setCell ⟨p, 1 + k, none⟩ v') p mb (updV vs k v') ⟨q.n, updF q.fr k ys, q.tk⟩ ∧ Turn (Foot p mb vs) w (w1.setCell ⟨p, 1 + k, none⟩ v') ∧ ∀ j, Foot p mb (updV vs k v') j → Foot p mb vs j ∨ w.heap.size ≤ j := by
  have hlt := h.lt
  have hpk : ¬ (vs k).ownBlock = some p := fun e => ((h.np k hk) p e).1 rfl
  have hmk : ¬ (vs k).ownBlock = some mb := fun e => ((h.np k hk) mb e).2 rfl
  have hcp : ∀ i, w1.cell? ⟨p, i, none⟩ = w.cell? ⟨p, i, none⟩ := fun i => t.cell (a := ⟨p, i, none⟩) hlt hpk
  have hfp : ∀ i, w1.frozen? ⟨p, i, none⟩ = w.frozen? ⟨p, i, none⟩ := fun i => t.frozen (a := ⟨p, i, none⟩) hlt hpk
  have ts : Turn (fun j => j = p) w1 (w1.setCell ⟨p, 1 + k, none⟩ v') := (Turn.refl _ _).setCell _ _ (fun _ => rfl)
  have ho' : ∀ g, v'.ownBlock = some g → g ≠ p ∧ g ≠ mb := fun g hg => by
    rcases ho g hg with e | e
    · exact h.np k hk g e
    · have := h.mp.lt; exact ⟨by omega, by omega⟩
  refine ⟨⟨?_, ?_, ?_, ?_, ?_, ?_, ?_, h.nm, ?_⟩, ?_, ?_⟩
  · rw [World.cell?_setCell_other _ _ _ _ (by intro e; injection e with _ e; omega), hcp]; exact h.c0
  · intro j hj
    unfold updV
    split
    · rename_i e; subst e
      exact World.cell?_setCell_same _ _ _ ((hcp _).trans (h.cf j hj))
    · rw [World.cell?_setCell_other _ _ _ _ (by intro e; injection e with _ e; omega), hcp]; exact h.cf j hj
  · intro j hj
    show IntsAt _ (updV vs k v' j) (updF q.fr k ys j)
    unfold updV updF
    by_cases e : j = k
    · rw [if_pos e, if_pos e]
      exact hi.turned ts (fun g hg e => (ho' g hg).1 e)
    · rw [if_neg e, if_neg e]
      exact ((h.fi j hj).turned t (fun g hg e2 => h.ap j k hj hk e g hg e2)).turned ts (fun g hg e => ((h.np j hj) g hg).1 e)
  · rw [World.cell?_setCell_other _ _ _ _ (by intro e; injection e with _ e; omega), hcp]; exact h.cm
  · exact (h.mp.turned t hmk).turned ts (fun e => h.nm e.symm)
  · intro i
    rw [World.frozen?_setCell, hfp]; exact h.fz i
  · intro i j hi' hj hne g hg
    unfold updV at hg ⊢
    split at hg
    · rename_i e; subst e
      rw [if_neg (fun e => hne e.symm)]
      rcases ho g hg with e2 | e2
      · exact fun e3 => h.ap i j hi' hj hne g e2 e3
      · intro e3
        have := ((h.fi j hj).lt g e3).2; omega
    · split
      · rename_i e; subst e
        intro e3
        rcases ho g e3 with e2 | e2
        · exact h.ap i j hi' hj hne g hg e2
        · have := ((h.fi i hi').lt g hg).2; omega
      · exact h.ap i j hi' hj hne g hg
  · intro j hj g hg
    unfold updV at hg
    split at hg
    · exact ho' g hg
    · exact h.np j hj g hg
  · exact (t.mono (fun j hj e => .inr (.inr ⟨k, hk, e⟩))).setCell _ _ (fun _ => .inl rfl)
  · intro j hj
    rcases hj with rfl | rfl | ⟨i, hi', hg⟩
    · exact .inl (.inl rfl)
    · exact .inl (.inr (.inl rfl))
    · unfold updV at hg
      split at hg
      · rcases ho j hg with e | e
        · exact .inl (.inr (.inr ⟨k, hk, e⟩))
        · exact .inr e
      · exact .inl (.inr (.inr ⟨i, hi', hg⟩))

/-- How many frames are free. -/
def leftOf (fr : Nat → List Int) : Int := (fr 0).length + (fr 1).length * 2 + (fr 2).length * 4 + (fr 3).length * 8 + (fr 4).length * 16 + (fr 5).length * 32 + (fr 6).length * 64

theorem IntsAt.slice {w : World} {v : Value} {xs : List Int} (h : IntsAt w v xs) : ∃ a cap, v = .slice a xs.length cap := by
  rcases h.shape with ⟨rfl, rfl⟩ | ⟨g, cap, rfl, _⟩
  · exact ⟨none, 0, rfl⟩
  · exact ⟨_, cap, rfl⟩

theorem seven_at (x0 x1 x2 x3 x4 x5 x6 : Value) (w : World) :
    (Instr.index 261 (.agg #[x0, x1, x2, x3, x4, x5, x6]) (.int .i64 0)).run Tryz.prog w = .ok x0 w ∧
    (Instr.index 261 (.agg #[x0, x1, x2, x3, x4, x5, x6]) (.int .i64 1)).run Tryz.prog w = .ok x1 w ∧
    (Instr.index 261 (.agg #[x0, x1, x2, x3, x4, x5, x6]) (.int .i64 2)).run Tryz.prog w = .ok x2 w ∧
    (Instr.index 261 (.agg #[x0, x1, x2, x3, x4, x5, x6]) (.int .i64 3)).run Tryz.prog w = .ok x3 w ∧
    (Instr.index 261 (.agg #[x0, x1, x2, x3, x4, x5, x6]) (.int .i64 4)).run Tryz.prog w = .ok x4 w ∧
    (Instr.index 261 (.agg #[x0, x1, x2, x3, x4, x5, x6]) (.int .i64 5)).run Tryz.prog w = .ok x5 w ∧
    (Instr.index 261 (.agg #[x0, x1, x2, x3, x4, x5, x6]) (.int .i64 6)).run Tryz.prog w = .ok x6 w := ⟨by kernel_rfl, by kernel_rfl, by kernel_rfl, by kernel_rfl, by kernel_rfl, by kernel_rfl, by kernel_rfl⟩

set_option maxHeartbeats 1000000 in
theorem left_is {w : World} {p mb : Nat} {vs : Nat → Value} {q : Pl} (h : PoolAt w p mb vs q) (hl : ∀ k, k < 7 → (q.fr k).length ≤ 1000) :
    Calls Tryz.prog 74 #[.pointer (some ⟨p, 0, none⟩)] w fun e w' => e = .returned (.int .i64 (leftOf q.fr)) ∧ w = w' := by
  have c0 := h.cf 0 (by decide)
  have c1 := h.cf 1 (by decide)
  have c2 := h.cf 2 (by decide)
  have c3 := h.cf 3 (by decide)
  have c4 := h.cf 4 (by decide)
  have c5 := h.cf 5 (by decide)
  have c6 := h.cf 6 (by decide)
  have l0 := hl 0 (by decide)
  have l1 := hl 1 (by decide)
  have l2 := hl 2 (by decide)
  have l3 := hl 3 (by decide)
  have l4 := hl 4 (by decide)
  have l5 := hl 5 (by decide)
  have l6 := hl 6 (by decide)
  simp only [Nat.add_zero] at c0 c1 c2 c3 c4 c5 c6
  obtain ⟨a0, z0, e0⟩ := (h.fi 0 (by decide)).slice
  obtain ⟨a1, z1, e1⟩ := (h.fi 1 (by decide)).slice
  obtain ⟨a2, z2, e2⟩ := (h.fi 2 (by decide)).slice
  obtain ⟨a3, z3, e3⟩ := (h.fi 3 (by decide)).slice
  obtain ⟨a4, z4, e4⟩ := (h.fi 4 (by decide)).slice
  obtain ⟨a5, z5, e5⟩ := (h.fi 5 (by decide)).slice
  obtain ⟨a6, z6, e6⟩ := (h.fi 6 (by decide)).slice
  rw [e0] at c0
  rw [e1] at c1
  rw [e2] at c2
  rw [e3] at c3
  rw [e4] at c4
  rw [e5] at c5
  rw [e6] at c6
  unfold leftOf
  generalize (q.fr 0).length = n0 at *
  generalize (q.fr 1).length = n1 at *
  generalize (q.fr 2).length = n2 at *
  generalize (q.fr 3).length = n3 at *
  generalize (q.fr 4).length = n4 at *
  generalize (q.fr 5).length = n5 at *
  generalize (q.fr 6).length = n6 at *
  clear h hl e0 e1 e2 e3 e4 e5 e6
  obtain ⟨i0, i1, i2, i3, i4, i5, i6⟩ := seven_at (.slice a0 n0 z0) (.slice a1 n1 z1) (.slice a2 n2 z2) (.slice a3 n3 z3) (.slice a4 n4 z4) (.slice a5 n5 z5) (.slice a6 n6 z6) w
  go_enter Tryz.func74, Tryz.ntmps74
  go_wp2_with fail
  refine wp_loop_rounds 8 ?_
  rw [rounds_succ]
  go_wp2_with fail
  rw [rounds_succ]
  go_wp2_with fail
  rw [rounds_succ]
  go_wp2_with fail
  rw [rounds_succ]
  go_wp2_with fail
  rw [rounds_succ]
  go_wp2_with fail
  rw [rounds_succ]
  go_wp2_with fail
  rw [rounds_succ]
  go_wp2_with fail
  rw [rounds_succ]
  go_wp2_with fail
  go_ret
  exact ⟨rfl, rfl⟩
end Go.Proofs.YtiohpmcedfbcgabGreatDoor
