/- What the law of parents does: one of processes' doings (life); all numbers as ints that lie in memory; slices.Equal at two alike. Conditions: each theorem's own premises. -/
import Derived.Test.YtiohpmcedfbcgabDoorProcKin
import Derived.Deep.QuietTactic
import Derived.BigQuiet
namespace Go.Proofs.YtiohpmcedfbcgabDoor
open Go.RowKit
set_option linter.unusedVariables false

theorem pids_at {w : World} {tb mb : Nat} {l : List (Int × Nat)} {f : Nat → Pr} (h : TabIs w tb mb l f) (hwf : ∀ t ∈ l, (Lit.int .i64 t.1).wf = true) (hl : l.length ≤ 1000000) :
    Calls Tryd.prog 46 #[.pointer (some ⟨tb, 0, none⟩)] w fun e w' => ∃ v, e = .returned v ∧ IntsAt w' v (pidsOf l) ∧ (∀ g, v.ownBlock = some g → w.heap.size ≤ g) ∧ Turn (fun _ => False) w w' := by
  refine (pids_is h hwf hl).mono ?_
  rintro e w' ⟨v, rfl, hrow, hbel⟩
  refine ⟨v, rfl, ?_, fun g hg => ownBlock_ge hrow hg, ⟨hbel.os, hbel.tape, hbel.output, hbel.size, fun k hk _ => hbel.block k hk⟩⟩
  unfold IntsAt
  rw [pidsOf_length]
  exact ownsRow_base_a hrow (Nat.zero_le _)

set_option maxRecDepth 100000 in
theorem equal_ints {w : World} {v v2 : Value} {xs : List Int} (hl : xs.length ≤ 1000000) (h1 : IntsAt w v xs) (h2 : IntsAt w v2 xs) :
    Calls Tryd.prog 53 #[v, v2] w fun e w' => e = .returned (.bool true) ∧ Turn (fun _ => False) w w' := by
  have sh : ∀ u, IntsAt w u xs → ∃ a cap, u = .slice a xs.length cap ∧ (xs = [] ∨ ∃ g, a = some ⟨g, 0, none⟩ ∧ g < w.heap.size ∧ ∀ (j : Nat) x, xs[j]? = some x → w.cell? ⟨g, j, none⟩ = some (.int .i64 x)) := fun u hu => by
    rcases hu.shape with ⟨rfl, rfl⟩ | ⟨g, cap, rfl, _, _, hg⟩
    · exact ⟨none, 0, rfl, .inl rfl⟩
    · exact ⟨_, cap, rfl, .inr ⟨g, rfl, hg, fun j x hj => hu.cell j x hj⟩⟩
  obtain ⟨a, cap, rfl, q1⟩ := sh v h1
  obtain ⟨a2, cap2, rfl, q2⟩ := sh v2 h2
  have H1 := hid q1
  have H2 := hid q2
  have hne : ((xs.length : Int) != xs.length) = false := by simp
  clear h1 h2 q1 q2 sh
  go_enter Tryd.func53, Tryd.ntmps53
  go_wp2_with fail
  go_loopw [13] (fun i wr => ∃ j : Nat, j ≤ xs.length ∧ i = .int .i64 j ∧ Hid (Turn (fun _ => False) w wr)) (fun i _ => xs.length - (intOf i).toNat)
  case atStart => exact ⟨0, Nat.zero_le _, rfl, hid (Turn.refl _ _)⟩
  case round =>
    obtain ⟨j, hj, rfl, hT⟩ := hrel
    by_cases hlt : j < xs.length
    · have hlt' : (j : Int) < xs.length := by omega
      obtain ⟨x, hx⟩ : ∃ x, xs[j]? = some x := ⟨_, List.getElem?_eq_getElem hlt⟩
      obtain ⟨g, rfl, hg, hb⟩ := H1.out.resolve_left (by rintro rfl; simp at hlt)
      obtain ⟨g2, rfl, hg2, hb2⟩ := H2.out.resolve_left (by rintro rfl; simp at hlt)
      have c0 := (hT.out.cell (a := ⟨g, j, none⟩) hg id).trans (hb j x hx)
      have k0 := (hT.out.cell (a := ⟨g2, j, none⟩) hg2 id).trans (hb2 j x hx)
      clear hb hb2 hx
      go_wp2_with fail
      go_quiet (fail)
      go_wp2_with fail
      go_roundw
      case rel => exact ⟨j + 1, by omega, by go_num, hid (hT.out.drewN _)⟩
      case measure => simp [intOf]; omega
    · have hlt' : ¬ (j : Int) < xs.length := by omega
      go_wp2_with fail
      go_ret
      exact ⟨rfl, hT.out⟩

theorem After.from {tb mb : Nat} {l : List (Int × Nat)} {w w0 w' : World} {v : Value} (h : After tb mb l w0 v w') (t : Turn (fun _ => False) w w0) : After tb mb l w v w' := by
  obtain ⟨l', f', h1, h2, h3, h4, h5⟩ := h
  exact ⟨l', f', h1, h2, h3, (t.mono fun _ _ h => h.elim).trans h4, fun k hk => (h5 k hk).imp id (fun h => Nat.le_trans t.size h)⟩

set_option maxHeartbeats 4000000 in
set_option maxRecDepth 100000 in
theorem life_any {w : World} {tb mb : Nat} {l : List (Int × Nat)} {f : Nat → Pr} (h : TabIs w tb mb l f) (hk : Kin l f) (a p n : Int) :
    Calls Tryd.prog 52 #[.pointer (some ⟨tb, 0, none⟩), .agg #[.int .i64 a, .int .i64 p, .int .i64 n]] w fun e w' => ∃ v, e = .returned v ∧ After tb mb l w v w' := by
  have T0 : Turn (fun _ => False) w (w.alloc (.cells #[.int .i64 a, .int .i64 p, .int .i64 n] 84)) := (Turn.refl _ _).alloc _
  have HT0 := hid T0
  have H0 := hid (h.turned T0 (fun _ _ => id))
  have HK := hid hk
  clear h hk T0
  by_cases h0 : a = 0
  · subst h0
    go_enter Tryd.func52, Tryd.ntmps52
    go_wp2_with fail
    refine (fork_kin H0.out HK.out p).mono ?_
    rintro e w1 ⟨k, v, rfl, hA⟩
    have HA := hid (hA.from HT0.out)
    clear hA
    go_wp2_with fail
    go_ret
    exact ⟨_, rfl, HA.out⟩
  by_cases h1 : a = 1
  · subst h1
    clear h0
    go_enter Tryd.func52, Tryd.ntmps52
    go_wp2_with fail
    refine (exit_kin H0.out HK.out p n).mono ?_
    rintro e w1 ⟨v, rfl, hA⟩
    have HA := hid (hA.from HT0.out)
    clear hA
    go_wp2_with fail
    go_ret
    exact ⟨_, rfl, HA.out⟩
  by_cases h2 : a = 2
  · subst h2
    clear h0 h1
    go_enter Tryd.func52, Tryd.ntmps52
    go_wp2_with fail
    refine (wait_kin H0.out HK.out p).mono ?_
    rintro e w1 ⟨k, c, v, rfl, hA⟩
    have HA := hid (hA.from HT0.out)
    clear hA
    go_wp2_with fail
    go_ret
    exact ⟨_, rfl, HA.out⟩
  by_cases h3 : a = 3
  · subst h3
    clear h0 h1 h2
    go_enter Tryd.func52, Tryd.ntmps52
    go_wp2_with fail
    refine (kill_kin H0.out HK.out p n).mono ?_
    rintro e w1 ⟨v, rfl, hA⟩
    have HA := hid (hA.from HT0.out)
    clear hA
    go_wp2_with fail
    go_ret
    exact ⟨_, rfl, HA.out⟩
  by_cases h4 : a = 4
  · subst h4
    clear h0 h1 h2 h3
    go_enter Tryd.func52, Tryd.ntmps52
    go_wp2_with fail
    refine (ignore_kin H0.out HK.out p n _).mono ?_
    rintro e w1 ⟨v, rfl, hA⟩
    have HA := hid (hA.from HT0.out)
    clear hA
    go_wp2_with fail
    go_ret
    exact ⟨_, rfl, HA.out⟩
  by_cases h5 : a = 5
  · subst h5
    clear h0 h1 h2 h3 h4
    go_enter Tryd.func52, Tryd.ntmps52
    go_wp2_with fail
    refine (take_kin H0.out HK.out p).mono ?_
    rintro e w1 ⟨r, rfl, hA⟩
    have HA := hid (hA.from HT0.out)
    clear hA
    go_wp2_with fail
    go_ret
    exact ⟨_, rfl, HA.out⟩
  · have e0 : (a == 0) = false := beq_eq_false_iff_ne.2 h0
    have e1 : (a == 1) = false := beq_eq_false_iff_ne.2 h1
    have e2 : (a == 2) = false := beq_eq_false_iff_ne.2 h2
    have e3 : (a == 3) = false := beq_eq_false_iff_ne.2 h3
    have e4 : (a == 4) = false := beq_eq_false_iff_ne.2 h4
    have e5 : (a == 5) = false := beq_eq_false_iff_ne.2 h5
    clear h0 h1 h2 h3 h4 h5
    go_enter Tryd.func52, Tryd.ntmps52
    go_wp2_with fail
    go_ret
    exact ⟨_, rfl, ⟨l, f, .inl rfl, H0.out, HK.out, HT0.out.mono (fun _ _ h => h.elim), fun _ h => .inl h⟩⟩
end Go.Proofs.YtiohpmcedfbcgabDoor
