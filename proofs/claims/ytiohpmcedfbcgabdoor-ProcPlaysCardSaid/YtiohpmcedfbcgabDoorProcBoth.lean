/- Each call of package proc, and the document's: both answer alike, and have the same then. Conditions: each theorem's own premises. -/
import Derived.Test.YtiohpmcedfbcgabDoorRefWait
import Derived.Test.YtiohpmcedfbcgabDoorProcKin
namespace Go.Proofs.YtiohpmcedfbcgabDoor
open Go.RowKit
set_option linter.unusedVariables false

/-- An Errno as an error: nil for 0. -/
def errQ (z : Int) : Value := if z = 0 then .nilIface else .iface 40 (.int .i64 z)
def StepTo (tb mb : Nat) (l : List (Int × Nat)) (w w1 : World) (l' : List (Int × Nat)) (f' : Nat → Pr) : Prop :=
  TabIs w1 tb mb l' f' ∧ Kin l' f' ∧ Turn (TFoot tb mb l) w w1 ∧ ∀ k, TFoot tb mb l' k → TFoot tb mb l k ∨ w.heap.size ≤ k
section
variable {w : World} {tb mb rb pm : Nat} {l : List (Int × Nat)} {f : Nat → Pr} {G : Nat → DP} {M : Nat → List (Int × Int)}
theorem StepTo.same {w1 : World} (h : TabIs w tb mb l f) (hk : Kin l f) (t : Turn (fun _ => False) w w1) : StepTo tb mb l w w1 l f := ⟨h.turned t (fun _ _ => id), hk, t.mono (fun _ _ h => h.elim), fun _ h => .inl h⟩

def ForkBoth (tb mb rb pm : Nat) (l : List (Int × Nat)) (G : Nat → DP) (M : Nat → List (Int × Int)) (pid : Int) (w : World) (e : Ending) (w1 : World) : Prop :=
  ∃ (k z : Int) (l' : List (Int × Nat)) (f' : Nat → Pr), e = .returned (.tuple #[.int .i64 k, errQ z]) ∧ StepTo tb mb l w w1 l' f' ∧ ∀ w', DocIs w' rb pm l G M → Calls Tryd.prog 33 #[.pointer (some ⟨rb, 0, none⟩), .int .i64 pid] w' fun e w'' => e = .returned (.tuple #[.int .i64 k, .int .i64 z]) ∧ DocAfter rb pm l G w' w'' l' f'
theorem fork_both (h : TabIs w tb mb l f) (hk : Kin l f) (hc : Coup l f G M) (pid : Int) :
    Calls Tryd.prog 32 #[.pointer (some ⟨tb, 0, none⟩), .int .i64 pid] w (ForkBoth tb mb rb pm l G M pid w) := by
  by_cases hr : RunsIn l f pid
  · obtain ⟨b, hb⟩ := runs_block hr
    by_cases hl : l.length < 24
    · refine (fork_runs h pid b hr hb hl).mono ?_
      rintro e w' ⟨k, c, k1, k24, hn, hks, rfl, hcs, hT, t⟩
      have hcn : ∀ s ∈ l, s.2 ≠ c := fun s hs e => by
        have := (h.pr s hs).lt; omega
      refine ⟨_, 0, _, _, rfl, ⟨hT, hk.fork hr hb (by omega) (by omega) hn hl hcn, t.mono (fun k _ e => .inr (.inl e)), fun j hj => ?_⟩, fun w'' hd => refFork_runs hd hc hk pid b c k hr hb hl k1 k24 hn hks hcn⟩
      rcases hj with e | e | hj
      · exact .inl (.inl e)
      · exact .inl (.inr (.inl e))
      · rw [List.map_append, List.mem_append] at hj
        rcases hj with hj | hj
        · exact .inl (.inr (.inr hj))
        · simp at hj; exact .inr (by omega)
    · refine (fork_full h pid hr (by omega)).mono ?_
      rintro e w' ⟨rfl, rfl⟩
      refine ⟨0, 12, l, f, rfl, StepTo.same h hk (Turn.refl _ _), fun w' hd => (refFork_full hd hc pid hr (by omega)).mono ?_⟩
      rintro e w'' ⟨rfl, rfl⟩
      exact ⟨rfl, DocAfter.same hd hc (Turn.refl _ _)⟩
  · refine (fork_missing h pid hr).mono ?_
    rintro e w' ⟨rfl, rfl⟩
    refine ⟨0, 7, l, f, rfl, StepTo.same h hk (Turn.refl _ _), fun w' hd => (refFork_missing hd hc pid hr).mono ?_⟩
    rintro e w'' ⟨rfl, rfl⟩
    exact ⟨rfl, DocAfter.same hd hc (Turn.refl _ _)⟩

def OneBoth (tb mb rb pm : Nat) (l : List (Int × Nat)) (G : Nat → DP) (M : Nat → List (Int × Int)) (fn : Nat) (args : Array Value) (w : World) (e : Ending) (w1 : World) : Prop :=
  ∃ (z : Int) (l' : List (Int × Nat)) (f' : Nat → Pr), e = .returned (errQ z) ∧ StepTo tb mb l w w1 l' f' ∧ ∀ w', DocIs w' rb pm l G M → Calls Tryd.prog fn args w' fun e w'' => e = .returned (.int .i64 z) ∧ DocAfter rb pm l G w' w'' l' f'
theorem exit_both (h : TabIs w tb mb l f) (hk : Kin l f) (hc : Coup l f G M) (pid c : Int) :
    Calls Tryd.prog 34 #[.pointer (some ⟨tb, 0, none⟩), .int .i64 pid, .int .i64 c] w (OneBoth tb mb rb pm l G M 35 #[.pointer (some ⟨rb, 0, none⟩), .int .i64 pid, .int .i64 c] w) := by
  by_cases hr : RunsIn l f pid
  · by_cases h1 : pid = 1
    · subst h1
      refine (exit_one h c hr).mono ?_
      rintro e w' ⟨rfl, rfl⟩
      refine ⟨6, l, f, rfl, StepTo.same h hk (Turn.refl _ _), fun w' hd => (refExit_one hd hc c hr).mono ?_⟩
      rintro e w'' ⟨rfl, rfl⟩
      exact ⟨rfl, DocAfter.same hd hc (Turn.refl _ _)⟩
    · obtain ⟨b, hb⟩ := runs_block hr
      refine (exit_runs h pid c b hr hb h1).mono ?_
      rintro e w' ⟨rfl, hT, t⟩
      exact ⟨0, _, _, rfl, ⟨hT, hk.exit hb h1 c, t.mono (fun k _ e => .inr (.inr e)), fun j hj => .inl hj⟩, fun w'' hd => refExit_runs hd hc hk pid c b hr hb h1⟩
  · refine (exit_missing h pid c hr).mono ?_
    rintro e w' ⟨rfl, rfl⟩
    refine ⟨7, l, f, rfl, StepTo.same h hk (Turn.refl _ _), fun w' hd => (refExit_missing hd hc pid c hr).mono ?_⟩
    rintro e w'' ⟨rfl, rfl⟩
    exact ⟨rfl, DocAfter.same hd hc (Turn.refl _ _)⟩
theorem kill_both (h : TabIs w tb mb l f) (hk : Kin l f) (hc : Coup l f G M) (pid s : Int) :
    Calls Tryd.prog 38 #[.pointer (some ⟨tb, 0, none⟩), .int .i64 pid, .int .i64 s] w (OneBoth tb mb rb pm l G M 39 #[.pointer (some ⟨rb, 0, none⟩), .int .i64 pid, .int .i64 s] w) := by
  by_cases hs : 1 ≤ s ∧ s ≤ 8
  · by_cases hr : RunsIn l f pid
    · obtain ⟨b, hb⟩ := runs_block hr
      obtain ⟨s, rfl⟩ : ∃ n : Nat, s = n := ⟨s.toNat, by omega⟩
      have hm := mem_of_mget hb
      obtain ⟨W, I, e1, e2, w9, i9⟩ := hk.bits _ hm
      simp only at e1 e2
      refine (kill_runs h pid b s W I hr hb (by omega) (by omega) e1 e2 w9 i9).mono ?_
      rintro e w' ⟨rfl, hT, t⟩
      refine ⟨0, _, _, rfl, ⟨hT, hk.upd b _ rfl rfl ⟨_, I, rfl, e2, ?_, i9⟩, t.mono (fun k _ e => .inr (.inr (List.mem_map.2 ⟨_, hm, e.symm⟩))), fun j hj => .inl hj⟩, fun w'' hd => refKill_runs hd hc pid b s W I hr hb (by omega) (by omega) e1 e2⟩
      unfold killR
      split
      · exact w9
      · exact or_lt ⟨W, w9⟩ ⟨s, by omega⟩
    · refine (kill_missing h pid s hr hs.1 hs.2).mono ?_
      rintro e w' ⟨rfl, rfl⟩
      refine ⟨7, l, f, rfl, StepTo.same h hk (Turn.refl _ _), fun w' hd => (refKill_missing hd hc pid s hr hs).mono ?_⟩
      rintro e w'' ⟨rfl, rfl⟩
      exact ⟨rfl, DocAfter.same hd hc (Turn.refl _ _)⟩
  · refine (kill_range tb pid s hs).mono ?_
    rintro e w' ⟨rfl, rfl⟩
    refine ⟨2, l, f, rfl, StepTo.same h hk (Turn.refl _ _), fun w' hd => (refKill_range rb pid s hs).mono ?_⟩
    rintro e w'' ⟨rfl, rfl⟩
    exact ⟨rfl, DocAfter.same hd hc (Turn.refl _ _)⟩
theorem ignore_both (h : TabIs w tb mb l f) (hk : Kin l f) (hc : Coup l f G M) (pid s : Int) (on : Bool) :
    Calls Tryd.prog 40 #[.pointer (some ⟨tb, 0, none⟩), .int .i64 pid, .int .i64 s, .bool on] w (OneBoth tb mb rb pm l G M 41 #[.pointer (some ⟨rb, 0, none⟩), .int .i64 pid, .int .i64 s, .bool on] w) := by
  by_cases hs : 1 ≤ s ∧ s ≤ 8
  · by_cases hr : RunsIn l f pid
    · by_cases h8 : s = 8
      · subst h8
        refine (ignore_last h pid on hr).mono ?_
        rintro e w' ⟨rfl, rfl⟩
        refine ⟨6, l, f, rfl, StepTo.same h hk (Turn.refl _ _), fun w' hd => (refIgnore_last hd hc pid on hr).mono ?_⟩
        rintro e w'' ⟨rfl, rfl⟩
        exact ⟨rfl, DocAfter.same hd hc (Turn.refl _ _)⟩
      · obtain ⟨b, hb⟩ := runs_block hr
        obtain ⟨s, rfl⟩ : ∃ n : Nat, s = n := ⟨s.toNat, by omega⟩
        have hm := mem_of_mget hb
        obtain ⟨W, I, e1, e2, w9, i9⟩ := hk.bits _ hm
        simp only at e1 e2
        refine (ignore_runs h pid b s W I on hr hb (by omega) (by omega) e1 e2 w9 i9).mono ?_
        rintro e w' ⟨rfl, hT, t⟩
        refine ⟨0, _, _, rfl, ⟨hT, hk.upd b _ ?_ ?_ ?_, t.mono (fun k _ e => .inr (.inr (List.mem_map.2 ⟨_, hm, e.symm⟩))), fun j hj => .inl hj⟩, fun w'' hd => refIgnore_runs hd hc pid b s W I on hr hb (by omega) (by omega) e1 e2⟩
        · unfold ignR; split <;> rfl
        · unfold ignR; split <;> rfl
        · unfold ignR; split
          · exact ⟨_, _, rfl, rfl, offR_lt w9 (by omega), or_lt ⟨offR I s, offR_lt i9 (by omega)⟩ ⟨s, by omega⟩⟩
          · exact ⟨W, _, e1, rfl, w9, offR_lt i9 (by omega)⟩
    · refine (ignore_missing h pid s on hr hs.1 hs.2).mono ?_
      rintro e w' ⟨rfl, rfl⟩
      refine ⟨7, l, f, rfl, StepTo.same h hk (Turn.refl _ _), fun w' hd => (refIgnore_missing hd hc pid s on hr hs).mono ?_⟩
      rintro e w'' ⟨rfl, rfl⟩
      exact ⟨rfl, DocAfter.same hd hc (Turn.refl _ _)⟩
  · refine (ignore_range tb pid s on hs).mono ?_
    rintro e w' ⟨rfl, rfl⟩
    refine ⟨2, l, f, rfl, StepTo.same h hk (Turn.refl _ _), fun w' hd => (refIgnore_range rb pid s on hs).mono ?_⟩
    rintro e w'' ⟨rfl, rfl⟩
    exact ⟨rfl, DocAfter.same hd hc (Turn.refl _ _)⟩
def TakeBoth (tb mb rb pm : Nat) (l : List (Int × Nat)) (G : Nat → DP) (M : Nat → List (Int × Int)) (pid : Int) (w : World) (e : Ending) (w1 : World) : Prop :=
  ∃ (r : Int) (l' : List (Int × Nat)) (f' : Nat → Pr), e = .returned (.int .i64 r) ∧ StepTo tb mb l w w1 l' f' ∧ ∀ w', DocIs w' rb pm l G M → Calls Tryd.prog 43 #[.pointer (some ⟨rb, 0, none⟩), .int .i64 pid] w' fun e w'' => e = .returned (.int .i64 r) ∧ DocAfter rb pm l G w' w'' l' f'
theorem take_both (h : TabIs w tb mb l f) (hk : Kin l f) (hc : Coup l f G M) (pid : Int) :
    Calls Tryd.prog 42 #[.pointer (some ⟨tb, 0, none⟩), .int .i64 pid] w (TakeBoth tb mb rb pm l G M pid w) := by
  by_cases hr : RunsIn l f pid
  · obtain ⟨b, hb⟩ := runs_block hr
    have hm := mem_of_mget hb
    obtain ⟨W, I, e1, e2, w9, i9⟩ := hk.bits _ hm
    simp only at e1 e2
    refine (take_runs h pid b W hr hb e1 w9).mono ?_
    rintro e w' ⟨r, hl, rfl, hT, t⟩
    refine ⟨_, _, _, rfl, ⟨hT, hk.upd b _ ?_ ?_ ?_, t.mono (fun k _ e => .inr (.inr (List.mem_map.2 ⟨_, hm, e.symm⟩))), fun j hj => .inl hj⟩, fun w'' hd => refTake_runs hd hc pid b W r hr hb e1 hl⟩
    · unfold takenR; split <;> rfl
    · unfold takenR; split <;> rfl
    · unfold takenR; split
      · exact ⟨W, I, e1, e2, w9, i9⟩
      · rcases hl with ⟨_, h8, _⟩ | ⟨h0, _⟩
        · exact ⟨_, I, rfl, e2, offR_lt w9 h8, i9⟩
        · exact absurd h0 ‹_›
  · refine (take_missing h pid hr).mono ?_
    rintro e w' ⟨rfl, rfl⟩
    refine ⟨0, l, f, rfl, StepTo.same h hk (Turn.refl _ _), fun w' hd => (refTake_missing hd hc pid hr).mono ?_⟩
    rintro e w'' ⟨rfl, rfl⟩
    exact ⟨rfl, DocAfter.same hd hc (Turn.refl _ _)⟩
def WaitBoth (tb mb rb pm : Nat) (l : List (Int × Nat)) (G : Nat → DP) (M : Nat → List (Int × Int)) (pid : Int) (w : World) (e : Ending) (w1 : World) : Prop :=
  ∃ (k c z : Int) (l' : List (Int × Nat)) (f' : Nat → Pr), e = .returned (.tuple #[.int .i64 k, .int .i64 c, errQ z]) ∧ StepTo tb mb l w w1 l' f' ∧ ∀ w', DocIs w' rb pm l G M → Calls Tryd.prog 37 #[.pointer (some ⟨rb, 0, none⟩), .int .i64 pid] w' fun e w'' => e = .returned (.tuple #[.int .i64 k, .int .i64 c, .int .i64 z]) ∧ DocAfter rb pm l G w' w'' l' f'
theorem wait_both (h : TabIs w tb mb l f) (hk : Kin l f) (hc : Coup l f G M) (pid : Int) :
    Calls Tryd.prog 36 #[.pointer (some ⟨tb, 0, none⟩), .int .i64 pid] w (WaitBoth tb mb rb pm l G M pid w) := by
  by_cases hr : RunsIn l f pid
  · refine (wait_runs h pid hr hk.wf (by have := hk.len; omega)).mono ?_
    intro e w' hw
    rcases waited_doc hw with ⟨h1, rfl, t⟩ | ⟨⟨y, hy, ho⟩, h2, rfl, t⟩ | ⟨n, b, hn, hon, hsn, hlt, hb, hs, rfl, hT, t⟩
    · refine ⟨0, 0, 8, l, f, rfl, StepTo.same h hk t, fun w'' hd => (refWait_runs hd hc hk pid hr).mono ?_⟩
      rintro e w3 (⟨_, rfl, t3⟩ | ⟨⟨y, hy, ho⟩, _⟩ | ⟨n, b, hn, ho, _⟩)
      · exact ⟨rfl, DocAfter.same hd hc t3⟩
      · exact absurd ho (h1 y hy)
      · exact absurd ho (h1 n hn)
    · refine ⟨0, 0, 6, l, f, rfl, StepTo.same h hk t, fun w'' hd => (refWait_runs hd hc hk pid hr).mono ?_⟩
      rintro e w3 (⟨h1, _⟩ | ⟨_, _, rfl, t3⟩ | ⟨n, b, hn, hon, hsn, _⟩)
      · exact absurd ho (h1 y hy)
      · exact ⟨rfl, DocAfter.same hd hc t3⟩
      · exact absurd hsn (h2 n hn hon)
    · refine ⟨n, _, 0, _, f, rfl, ⟨hT, hk.del hb hs, t.mono (fun k _ e => .inr (.inl e)), fun j hj => .inl (foot_del hj)⟩, fun w'' hd => (refWait_runs hd hc hk pid hr).mono ?_⟩
      rintro e w3 (⟨h1, _⟩ | ⟨_, h2, _⟩ | ⟨n2, b2, hn2, hon2, hsn2, hlt2, hb2, rfl, hda⟩)
      · exact absurd hon (h1 n hn)
      · exact absurd hsn (h2 n hn hon)
      · have hnn : n2 = n := by
          rcases Int.lt_trichotomy n2 n with h3 | h3 | h3
          · exact absurd hsn2 (hlt n2 hn2 h3 hon2)
          · exact h3
          · exact absurd hsn (hlt2 n hn h3 hon)
        subst hnn
        rw [hb] at hb2
        cases hb2
        exact ⟨rfl, hda⟩
  · refine (wait_missing h pid hr).mono ?_
    rintro e w' ⟨rfl, t⟩
    refine ⟨0, 0, 7, l, f, rfl, StepTo.same h hk t, fun w' hd => (refWait_missing hd hc pid hr).mono ?_⟩
    rintro e w'' ⟨rfl, rfl⟩
    exact ⟨rfl, DocAfter.same hd hc (Turn.refl _ _)⟩
end

/-- Both tables, new since W, and apart. -/
structure Duo (W w : World) (tb mb rb pm : Nat) (l : List (Int × Nat)) (f : Nat → Pr) (G : Nat → DP) (M : Nat → List (Int × Int)) : Prop where
  tab : TabIs w tb mb l f
  kin : Kin l f
  doc : DocIs w rb pm l G M
  coup : Coup l f G M
  turn : Turn (fun _ => False) W w
  newT : ∀ k, TFoot tb mb l k → W.heap.size ≤ k
  newD : ∀ k, DFoot rb pm l G k → W.heap.size ≤ k
  apart : ∀ k, TFoot tb mb l k → ¬ DFoot rb pm l G k
theorem Duo.turned {W w w' : World} {tb mb rb pm : Nat} {l : List (Int × Nat)} {f : Nat → Pr} {G : Nat → DP} {M : Nat → List (Int × Int)} (h : Duo W w tb mb rb pm l f G M) (t : Turn (fun _ => False) w w') : Duo W w' tb mb rb pm l f G M :=
  ⟨h.tab.turned t (fun _ _ => id), h.kin, h.doc.turned t (fun _ _ => id), h.coup, h.turn.trans t, h.newT, h.newD, h.apart⟩
theorem Duo.mid {W w w1 : World} {tb mb rb pm : Nat} {l l' : List (Int × Nat)} {f f' : Nat → Pr} {G : Nat → DP} {M : Nat → List (Int × Int)} (h : Duo W w tb mb rb pm l f G M) (s : StepTo tb mb l w w1 l' f') : DocIs w1 rb pm l G M ∧ Turn (fun _ => False) W w1 :=
  ⟨h.doc.turned s.2.2.1 (fun k hk e => h.apart k e hk), h.turn.trans' s.2.2.1 (fun k hk e => by have := h.newT k e; omega)⟩
theorem Duo.step {W w w1 w2 : World} {tb mb rb pm : Nat} {l l' : List (Int × Nat)} {f f' : Nat → Pr} {G : Nat → DP} {M : Nat → List (Int × Int)} (h : Duo W w tb mb rb pm l f G M) (s : StepTo tb mb l w w1 l' f') (d : DocAfter rb pm l G w1 w2 l' f') : ∃ G' M', Duo W w2 tb mb rb pm l' f' G' M' := by
  obtain ⟨hd1, ht1⟩ := h.mid s
  obtain ⟨hT, hK, t1, hf1⟩ := s
  obtain ⟨G', M', hD, hC, t2, hf2⟩ := d
  have hno : ∀ k, TFoot tb mb l' k → ¬ DFoot rb pm l G k := fun k hk hd => by
    rcases hf1 k hk with h1 | h1
    · exact h.apart k h1 hd
    · have := h.doc.foot_lt k hd; omega
  refine ⟨G', M', hT.turned t2 hno, hK, hD, hC, ht1.trans' t2 (fun k hk e => by have := h.newD k e; omega), fun k hk => ?_, fun k hk => ?_, fun k hk hd => ?_⟩
  · rcases hf1 k hk with h1 | h1
    · exact h.newT k h1
    · exact Nat.le_trans h.turn.size h1
  · rcases hf2 k hk with h1 | h1
    · exact h.newD k h1
    · exact Nat.le_trans ht1.size h1
  · rcases hf2 k hd with h1 | h1
    · exact hno k hk h1
    · have := hT.foot_lt k hk; omega
theorem Duo.st {W w : World} {tb mb rb pm : Nat} {l : List (Int × Nat)} {f : Nat → Pr} {G : Nat → DP} {M : Nat → List (Int × Int)} (h : Duo W w tb mb rb pm l f G M) : ∀ k, TFoot tb mb l k ∨ DFoot rb pm l G k → k < w.heap.size := fun k hk => hk.elim (h.tab.foot_lt k) (h.doc.foot_lt k)
end Go.Proofs.YtiohpmcedfbcgabDoor
