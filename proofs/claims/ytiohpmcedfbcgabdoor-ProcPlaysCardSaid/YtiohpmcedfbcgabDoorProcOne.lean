/- Package proc as the law of signals sees it: one process that runs, its signals as two sets of bits; and the fact 'forked'. Conditions: each theorem's own premises. -/
import Derived.Test.YtiohpmcedfbcgabDoorProcWait
import Derived.Test.YtiohpmcedfbcgabDoorProcSig
namespace Go.Proofs.YtiohpmcedfbcgabDoor
open Go.RowKit
set_option linter.unusedVariables false

/-- The process pid, in block b, runs; the signals W wait, the signals I are ignored. -/
structure One (w : World) (tb mb : Nat) (l : List (Int × Nat)) (pid : Int) (b W I : Nat) : Prop where
  ex : ∃ f, TabIs w tb mb l f ∧ (f b).state = 1 ∧ (f b).waits = (W : Nat) ∧ (f b).ignores = (I : Nat)
  get : mget l pid = some b
  w9 : W < 512
  i9 : I < 512
theorem One.turned {w w' : World} {tb mb : Nat} {l : List (Int × Nat)} {pid : Int} {b W I : Nat} {S : Nat → Prop} (h : One w tb mb l pid b W I) (t : Turn S w w') (hn : ∀ k, TFoot tb mb l k → ¬ S k) : One w' tb mb l pid b W I := by
  obtain ⟨f, hf, r⟩ := h.ex
  exact ⟨⟨f, hf.turned t hn, r⟩, h.get, h.w9, h.i9⟩
theorem One.foot_lt {w : World} {tb mb : Nat} {l : List (Int × Nat)} {pid : Int} {b W I : Nat} (h : One w tb mb l pid b W I) (k : Nat) (hk : TFoot tb mb l k) : k < w.heap.size := by
  obtain ⟨f, hf, _⟩ := h.ex
  exact hf.foot_lt k hk
theorem runs_of {l : List (Int × Nat)} {f : Nat → Pr} {pid : Int} {b : Nat} (hg : mget l pid = some b) (hs : (f b).state = 1) : RunsIn l f pid := by
  unfold RunsIn stR
  rw [hg]
  exact hs
section
variable {w : World} {tb mb : Nat} {l : List (Int × Nat)} {pid : Int} {b W I : Nat}
theorem one_kill (h : One w tb mb l pid b W I) (s : Nat) (h1 : 1 ≤ s) (h8 : s ≤ 8) :
    Calls Tryd.prog 38 #[.pointer (some ⟨tb, 0, none⟩), .int .i64 pid, .int .i64 s] w fun e w' => e = .returned .nilIface ∧ One w' tb mb l pid b (killR W I s) I ∧ Turn (fun k => k = b) w w' := by
  obtain ⟨⟨f, hf, e1, e2, e3⟩, hg, h9, i9⟩ := h
  refine (kill_runs hf pid b s W I (runs_of hg e1) hg h1 h8 e2 e3 h9 i9).mono ?_
  rintro e w' ⟨rfl, ht, t⟩
  refine ⟨rfl, ⟨⟨_, ht, ?_, ?_, ?_⟩, hg, ?_, i9⟩, t⟩
  · rw [updP_same]; exact e1
  · rw [updP_same]
  · rw [updP_same]; exact e3
  · unfold killR
    split
    · exact h9
    · exact or_lt ⟨W, h9⟩ ⟨s, by omega⟩
theorem one_ignore (h : One w tb mb l pid b W I) (s : Nat) (h1 : 1 ≤ s) (h7 : s ≤ 7) :
    Calls Tryd.prog 40 #[.pointer (some ⟨tb, 0, none⟩), .int .i64 pid, .int .i64 s, .bool true] w fun e w' => e = .returned .nilIface ∧ One w' tb mb l pid b (offR W s) (offR I s ||| 2 ^ s) ∧ Turn (fun k => k = b) w w' := by
  obtain ⟨⟨f, hf, e1, e2, e3⟩, hg, h9, i9⟩ := h
  refine (ignore_runs hf pid b s W I true (runs_of hg e1) hg h1 h7 e2 e3 h9 i9).mono ?_
  rintro e w' ⟨rfl, ht, t⟩
  refine ⟨rfl, ⟨⟨_, ht, ?_, ?_, ?_⟩, hg, offR_lt h9 (by omega), or_lt ⟨offR I s, offR_lt i9 (by omega)⟩ ⟨s, by omega⟩⟩, t⟩
  · rw [updP_same]; exact e1
  · rw [updP_same]; rfl
  · rw [updP_same]; rfl
theorem one_last (h : One w tb mb l pid b W I) :
    Calls Tryd.prog 40 #[.pointer (some ⟨tb, 0, none⟩), .int .i64 pid, .int .i64 8, .bool true] w fun e w' => e = .returned (.iface 40 (.int .i64 6)) ∧ w = w' := by
  obtain ⟨⟨f, hf, e1, e2, e3⟩, hg, h9, i9⟩ := h
  exact ignore_last hf pid true (runs_of hg e1)
/-- What waits behind a Take that answered r. -/
def leftW (W r : Nat) : Nat := if r = 0 then W else offR W r
theorem one_take (h : One w tb mb l pid b W I) :
    Calls Tryd.prog 42 #[.pointer (some ⟨tb, 0, none⟩), .int .i64 pid] w fun e w' => ∃ r : Nat, LeastSig W r ∧ e = .returned (.int .i64 (r : Nat)) ∧ One w' tb mb l pid b (leftW W r) I ∧ Turn (fun k => k = b) w w' := by
  obtain ⟨⟨f, hf, e1, e2, e3⟩, hg, h9, i9⟩ := h
  refine (take_runs hf pid b W (runs_of hg e1) hg e2 h9).mono ?_
  rintro e w' ⟨r, hr, rfl, ht, t⟩
  refine ⟨r, hr, rfl, ⟨⟨_, ht, ?_, ?_, ?_⟩, hg, ?_, i9⟩, t⟩
  · rw [updP_same]; unfold takenR; split
    · exact e1
    · exact e1
  · rw [updP_same]; unfold takenR leftW; split
    · exact e2
    · rfl
  · rw [updP_same]; unfold takenR; split
    · exact e3
    · exact e3
  · unfold leftW; split
    · exact h9
    · rcases hr with ⟨h1, h8, _⟩ | ⟨h0, _⟩
      · exact offR_lt h9 h8
      · exact absurd h0 ‹_›
end

/-! ### the bits -/
theorem offR_bit {W s t : Nat} (ht : t ≤ 8) : (offR W s).testBit t = (W.testBit t && decide (t ≠ s)) := by
  unfold offR
  rw [Nat.testBit_and, Nat.testBit_xor, Nat.testBit_two_pow]
  have : ∀ t : Fin 9, Nat.testBit 511 t.val = true := by decide
  rw [this ⟨t, by omega⟩]
  by_cases e : s = t
  · subst e; simp
  · have e2 : ¬ t = s := fun h => e h.symm
    simp [e, e2]
theorem onR_bit {W s t : Nat} : (W ||| 2 ^ s).testBit t = (W.testBit t || decide (t = s)) := by
  rw [Nat.testBit_or, Nat.testBit_two_pow]
  by_cases e : s = t
  · subst e; simp
  · have e2 : ¬ t = s := fun h => e h.symm
    simp [e, e2]
theorem killR_bit {W I s t : Nat} : (killR W I s).testBit t = (W.testBit t || (decide (t = s) && !I.testBit s)) := by
  unfold killR
  split
  · simp [*]
  · rw [onR_bit]; simp [*]
theorem least_of {W r s : Nat} (h : LeastSig W r) (h1 : 1 ≤ s) (h8 : s ≤ 8) (hs : W.testBit s = true) (hno : ∀ i, 1 ≤ i → i < s → W.testBit i = false) : r = s := by
  rcases h with ⟨a1, a8, at_, an⟩ | ⟨rfl, hall⟩
  · rcases Nat.lt_trichotomy r s with h | h | h
    · rw [hno r a1 h] at at_; cases at_
    · exact h
    · rw [an s h1 h] at hs; cases hs
  · rw [hall s h1 h8] at hs; cases hs
theorem least_none {W r : Nat} (h : LeastSig W r) (hno : ∀ i, 1 ≤ i → i ≤ 8 → W.testBit i = false) : r = 0 := by
  rcases h with ⟨a1, a8, at_, an⟩ | ⟨rfl, hall⟩
  · rw [hno r a1 a8] at at_; cases at_
  · rfl

/-! ### the first fork: 2 -/
theorem fork_two {b : Nat} {k : Nat} (h1 : 1 ≤ k) (hn : mget [((1 : Int), b)] (k : Int) = none) (hall : ∀ i : Int, 1 ≤ i → i < k → (mget [((1 : Int), b)] i).isSome = true) : k = 2 := by
  rcases Nat.lt_trichotomy k 2 with h | h | h
  · have : k = 1 := by omega
    subst this
    exact absurd hn (by simp [mget])
  · exact h
  · have := hall 2 (by omega) (by omega)
    simp [mget] at this

/-- A new table, and the first fork: 2, that runs, with no signal. -/
def Born (tb mb b nb : Nat) (f : Nat → Pr) (w : World) : Prop := TabIs w tb mb [((1 : Int), b), ((2 : Int), nb)] f ∧ f b = init ∧ f nb = ⟨1, 1, 0, 0, 0⟩ ∧ b ≠ nb
theorem fork_born {w : World} {tb mb b : Nat} (h : TabIs w tb mb [((1 : Int), b)] (fun _ => init)) :
    Calls Tryd.prog 32 #[.pointer (some ⟨tb, 0, none⟩), .int .i64 1] w fun e w' => ∃ nb f, e = .returned (.tuple #[.int .i64 2, .nilIface]) ∧ w.heap.size ≤ nb ∧ Born tb mb b nb f w' ∧ Turn (fun j => j = mb) w w' := by
  have hb : mget [((1 : Int), b)] 1 = some b := by simp [mget]
  refine (fork_runs h 1 b (runs_of hb rfl) hb (by simp)).mono ?_
  rintro e w' ⟨k, nb, h1, h24, hn, hall, rfl, hnb, hT, t⟩
  have := fork_two h1 hn hall
  subst this
  have hbl := h.pr (1, b) (by simp)
  have hne : b ≠ nb := by have := hbl.lt; simp only at this; omega
  exact ⟨nb, _, rfl, hnb, ⟨hT, updP_other _ _ hne, by rw [updP_same]; rfl, hne⟩, t⟩

set_option maxHeartbeats 4000000 in
set_option maxRecDepth 100000 in
theorem forked_any (w : World) : Calls Tryd.prog 51 #[] w fun e w' => e = .returned (.bool true) ∧ Turn (fun _ => False) w w' := by
  go_enter Tryd.func51, Tryd.ntmps51
  go_wp2_with fail
  refine (proc_new w).mono ?_
  rintro e w1 ⟨tb, mb, b, rfl, hT, t1, hF⟩
  have HT := hid hT
  have HT1 := hid t1
  have HF := hid hF
  clear hT t1 hF
  go_wp2_with fail
  refine (fork_born HT.out).mono ?_
  rintro e w2 ⟨nb, f, rfl, hnb, hB, t2⟩
  have HB := hid hB
  have HN := hid hnb
  have HT2 := hid (HT1.out.trans' t2 (fun k hk e => by have := HF.out mb (.inr (.inl rfl)); omega))
  clear hB t2 hnb
  have hg2 : mget [((1 : Int), b), ((2 : Int), nb)] 2 = some nb := by simp [mget]
  have hg1 : mget [((1 : Int), b), ((2 : Int), nb)] 1 = some b := by simp [mget]
  have HE := hid (exit_runs HB.out.1 2 9 nb (runs_of hg2 (by rw [HB.out.2.2.1])) hg2 (by decide))
  obtain ⟨F, hF⟩ : ∃ F, exitF f nb 2 9 = F := ⟨_, rfl⟩
  rw [hF] at HE
  have hFb : F b = init := by
    rw [← hF]
    unfold exitF
    rw [updP_other _ _ HB.out.2.2.2, HB.out.2.1]
    rfl
  have hFn : F nb = ⟨1, 2, 9, 0, 0⟩ := by
    rw [← hF]
    unfold exitF
    rw [updP_same, HB.out.2.2.1]
    rfl
  have HFb := hid hFb
  have HFn := hid hFn
  have HG1 := hid hg1
  have HG2 := hid hg2
  clear hF hFb hFn hg1 hg2
  go_wp2_with fail
  refine HE.out.mono ?_
  rintro e w3 ⟨rfl, hT3, t3⟩
  have HT3 := hid hT3
  have HTu3 : Hid (Turn (fun _ => False) w w3) := hid (HT2.out.trans' t3 (fun k hk e => by
    simp only [List.map_cons, List.map_nil, List.mem_cons, List.not_mem_nil, or_false] at e
    rcases e with rfl | rfl
    · have := HF.out k (.inr (.inr (by simp))); omega
    · have := HN.out; have := HT1.out.size; omega))
  clear hT3 t3 HT2 HE
  have hst : stR [((1 : Int), b), ((2 : Int), nb)] F 2 = 2 := by
    unfold stR
    rw [HG2.out]
    simp only [Option.elim, HFn.out]
  have hS := state_is HT3.out 2
  rw [hst] at hS
  have HS := hid hS
  clear hS hst
  go_wp2_with fail
  refine HS.out.mono ?_
  rintro e w4 ⟨rfl, rfl⟩
  have HW := hid (wait_runs HT3.out 1 (runs_of HG1.out (by rw [HFb.out]; rfl)) (by
    intro t ht
    simp only [List.mem_cons, List.not_mem_nil, or_false] at ht
    rcases ht with rfl | rfl <;> rfl) (by simp))
  go_wp2_with fail
  refine HW.out.mono ?_
  have hown : (2 : Int) ∈ ownOf [((1 : Int), b), ((2 : Int), nb)] F 1 := List.mem_filter.2 ⟨mem_pidsOf.2 (by simp), by
    unfold parR
    rw [HG2.out]
    simp only [Option.elim, HFn.out]
    decide⟩
  rintro e w4 (⟨h0, _, _⟩ | ⟨_, h0, _, _⟩ | ⟨j, k, bk, hj, _, hbk, hst, rfl, hT4, t4⟩)
  · rw [h0] at hown; cases hown
  · refine absurd ?_ (h0 2 hown)
    unfold stR
    rw [HG2.out]
    simp only [Option.elim, HFn.out]
  · have hk2 : k = 2 ∧ bk = nb := by
      have hm := mem_of_mget hbk
      simp only [List.mem_cons, Prod.mk.injEq, List.not_mem_nil, or_false] at hm
      rcases hm with ⟨rfl, rfl⟩ | h
      · rw [HFb.out] at hst; cases hst
      · exact h
    obtain ⟨rfl, rfl⟩ := hk2
    have hcode : (F bk).code = 9 := by rw [HFn.out]
    rw [hcode]
    have hS := state_is hT4 2
    have hst0 : stR (mdel [((1 : Int), b), ((2 : Int), bk)] 2) F 2 = 0 := by
      unfold stR
      rw [mget_mdel, if_pos rfl]
      rfl
    rw [hst0] at hS
    have HS4 := hid hS
    have HT4 : Hid (Turn (fun _ => False) w w4) := hid (HTu3.out.trans' t4 (fun k hk e => by have := HF.out mb (.inr (.inl rfl)); omega))
    clear hS hst0 hT4 t4 hj hbk hst hcode hown HW
    go_wp2_with fail
    refine HS4.out.mono ?_
    rintro e w5 ⟨rfl, rfl⟩
    go_wp2_with fail
    go_ret
    exact ⟨rfl, HT4.out⟩
end Go.Proofs.YtiohpmcedfbcgabDoor
