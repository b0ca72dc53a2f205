/- The contracts of package proc: a table of processes: its map leads from numbers to blocks, each of a process of its own. Conditions: each theorem's own premises. -/
import Derived.Test.YtiohpmcedfbcgabDoorProg
import Derived.Test.YtiohpmcedfbcgabDoorMaps
import Derived.BigRegion
import Derived.Outline
namespace Go.Proofs.YtiohpmcedfbcgabDoor
open Go.RowKit
set_option linter.unusedVariables false

structure Pr where
  parent : Int
  state : Int
  code : Int
  waits : Int
  ignores : Int
structure PrAt (w : World) (b : Nat) (p : Pr) : Prop where
  c0 : w.cell? ⟨b, 0, none⟩ = some (.int .i64 p.parent)
  c1 : w.cell? ⟨b, 1, none⟩ = some (.int .i64 p.state)
  c2 : w.cell? ⟨b, 2, none⟩ = some (.int .i64 p.code)
  c3 : w.cell? ⟨b, 3, none⟩ = some (.int .i64 p.waits)
  c4 : w.cell? ⟨b, 4, none⟩ = some (.int .i64 p.ignores)
  fz : ∀ i, w.frozen? ⟨b, i, none⟩ = false
theorem PrAt.lt {w : World} {b : Nat} {p : Pr} (h : PrAt w b p) : b < w.heap.size := lt_of_cell h.c0
theorem PrAt.turned {w w' : World} {b : Nat} {p : Pr} {S : Nat → Prop} (h : PrAt w b p) (t : Turn S w w') (hn : ¬ S b) : PrAt w' b p :=
  ⟨(t.cell (a := ⟨b, 0, none⟩) h.lt hn).trans h.c0, (t.cell (a := ⟨b, 1, none⟩) h.lt hn).trans h.c1, (t.cell (a := ⟨b, 2, none⟩) h.lt hn).trans h.c2, (t.cell (a := ⟨b, 3, none⟩) h.lt hn).trans h.c3, (t.cell (a := ⟨b, 4, none⟩) h.lt hn).trans h.c4, fun i => (t.frozen (a := ⟨b, i, none⟩) h.lt hn).trans (h.fz i)⟩

def ptr (b : Nat) : Value := .pointer (some ⟨b, 0, none⟩)
/-- A table in block tb, its map in block mb: l leads from numbers to blocks, f from blocks to processes. -/
structure TabIs (w : World) (tb mb : Nat) (l : List (Int × Nat)) (f : Nat → Pr) : Prop where
  hdr : w.cell? ⟨tb, 0, none⟩ = some (.map (some mb))
  mp : MapIs w mb (.int .i64) encI (fun b : Nat => Value.pointer (some ⟨b, 0, none⟩)) l
  pr : ∀ t ∈ l, PrAt w t.2 (f t.2)
  inj : (l.map (·.2)).Nodup
  ap : ∀ t ∈ l, t.2 ≠ tb ∧ t.2 ≠ mb
  ne : tb ≠ mb
def TFoot (tb mb : Nat) (l : List (Int × Nat)) (k : Nat) : Prop := k = tb ∨ k = mb ∨ k ∈ l.map (·.2)
theorem TabIs.turned {w w' : World} {tb mb : Nat} {l : List (Int × Nat)} {f : Nat → Pr} {S : Nat → Prop} (h : TabIs w tb mb l f) (t : Turn S w w') (hn : ∀ k, TFoot tb mb l k → ¬ S k) : TabIs w' tb mb l f :=
  ⟨(t.cell (a := ⟨tb, 0, none⟩) (lt_of_cell h.hdr) (hn tb (.inl rfl))).trans h.hdr, h.mp.turned t (hn mb (.inr (.inl rfl))), fun s hs => (h.pr s hs).turned t (hn s.2 (.inr (.inr (List.mem_map.2 ⟨s, hs, rfl⟩)))), h.inj, h.ap, h.ne⟩
theorem TabIs.foot_lt {w : World} {tb mb : Nat} {l : List (Int × Nat)} {f : Nat → Pr} (h : TabIs w tb mb l f) (k : Nat) (hk : TFoot tb mb l k) : k < w.heap.size := by
  rcases hk with rfl | rfl | hk
  · exact lt_of_cell h.hdr
  · exact h.mp.lt
  · obtain ⟨s, hs, rfl⟩ := List.mem_map.1 hk
    exact (h.pr s hs).lt

/-- Where a process lies (nil: nowhere). -/
def whereP (l : List (Int × Nat)) (pid : Int) : Value := (mget l pid).elim (.pointer none) ptr
theorem zeroP (w : World) : (zeroValue 164).run Tryd.prog w = .ok (.pointer none) w := by kernel_rfl
theorem lookup_pid {w : World} {mb : Nat} {l : List (Int × Nat)} (h : MapIs w mb (.int .i64) encI (fun b : Nat => Value.pointer (some ⟨b, 0, none⟩)) l) (pid : Int) : (Instr.lookup 167 (.map (some mb)) (.int .i64 pid) false).run Tryd.prog w = .ok (whereP l pid) w := by
  have h1 := h.run_lookup keyI Tryd.underlying167 Tryd.underlying3 (zeroP w) pid false
  exact h1

/-- How a process stands (0: it is not there). -/
def stR (l : List (Int × Nat)) (f : Nat → Pr) (pid : Int) : Int := (mget l pid).elim 0 fun b => (f b).state
theorem state_is {w : World} {tb mb : Nat} {l : List (Int × Nat)} {f : Nat → Pr} (h : TabIs w tb mb l f) (pid : Int) :
    Calls Tryd.prog 49 #[.pointer (some ⟨tb, 0, none⟩), .int .i64 pid] w fun e w' => e = .returned (.int .i64 (stR l f pid)) ∧ w = w' := by
  have hh := h.hdr
  have lk := lookup_pid h.mp pid
  unfold whereP at lk
  unfold stR
  cases e : mget l pid with
  | none =>
    rw [e] at lk
    simp only [Option.elim] at lk
    clear h e
    go_enter Tryd.func49, Tryd.ntmps49
    go_wp2_with fail
    go_ret
    exact ⟨rfl, rfl⟩
  | some b =>
    rw [e] at lk
    simp only [Option.elim, ptr] at lk
    have c1 := (h.pr _ (mem_of_mget e)).c1
    simp only at c1
    clear h e
    go_enter Tryd.func49, Tryd.ntmps49
    go_wp2_with fail
    go_ret
    exact ⟨rfl, rfl⟩
/-- A process that runs. -/
def RunsIn (l : List (Int × Nat)) (f : Nat → Pr) (pid : Int) : Prop := stR l f pid = 1
theorem RunsIn.at_ {l : List (Int × Nat)} {f : Nat → Pr} {pid : Int} (h : RunsIn l f pid) : ∃ b, mget l pid = some b ∧ (f b).state = 1 := by
  unfold RunsIn stR at h
  cases e : mget l pid with
  | none => rw [e] at h; cases h
  | some b => rw [e] at h; exact ⟨b, rfl, h⟩
theorem runs_yes {w : World} {tb mb : Nat} {l : List (Int × Nat)} {f : Nat → Pr} (h : TabIs w tb mb l f) (pid : Int) (hr : RunsIn l f pid) :
    Calls Tryd.prog 47 #[.pointer (some ⟨tb, 0, none⟩), .int .i64 pid] w fun e w' => e = .returned .nilIface ∧ w = w' := by
  have hq := state_is h pid
  unfold RunsIn at hr
  rw [hr] at hq
  have HQ := hid hq
  clear h hr hq
  go_enter Tryd.func47, Tryd.ntmps47
  go_wp2_with fail
  refine HQ.out.mono ?_
  rintro e w' ⟨rfl, rfl⟩
  go_wp2_with fail
  go_ret
  exact ⟨rfl, rfl⟩
theorem runs_no {w : World} {tb mb : Nat} {l : List (Int × Nat)} {f : Nat → Pr} (h : TabIs w tb mb l f) (pid : Int) (hr : ¬ RunsIn l f pid) :
    Calls Tryd.prog 47 #[.pointer (some ⟨tb, 0, none⟩), .int .i64 pid] w fun e w' => e = .returned (.iface 40 (.int .i64 7)) ∧ w = w' := by
  have HQ := hid (state_is h pid)
  have hne : (stR l f pid != 1) = true := bne_iff_ne.2 hr
  clear h hr
  go_enter Tryd.func47, Tryd.ntmps47
  go_wp2_with fail
  refine HQ.out.mono ?_
  rintro e w' ⟨rfl, rfl⟩
  go_wp2_with fail
  go_ret
  exact ⟨rfl, rfl⟩

theorem sig_yes (s : Int) (h1 : 1 ≤ s) (h2 : s ≤ 8) (w : World) : Calls Tryd.prog 112 #[.int .i64 s] w fun e w' => e = .returned (.bool true) ∧ w = w' := by
  go_enter Tryd.func112, Tryd.ntmps112
  go_wp2
  go_ret
  exact ⟨rfl, rfl⟩
theorem sig_no (s : Int) (h : ¬ (1 ≤ s ∧ s ≤ 8)) (w : World) : Calls Tryd.prog 112 #[.int .i64 s] w fun e w' => e = .returned (.bool false) ∧ w = w' := by
  by_cases h1 : 1 ≤ s
  · have h2 : decide (s ≤ 8) = false := decide_eq_false (fun h2 => h ⟨h1, h2⟩)
    clear h
    go_enter Tryd.func112, Tryd.ntmps112
    go_wp2
    go_ret
    exact ⟨rfl, rfl⟩
  · have h2 : decide (1 ≤ s) = false := decide_eq_false h1
    clear h
    go_enter Tryd.func112, Tryd.ntmps112
    go_wp2
    go_ret
    exact ⟨rfl, rfl⟩

end Go.Proofs.YtiohpmcedfbcgabDoor
