/- Package proc: what Kill, Ignore and Take tell where they refuse; Ignore and Take of a process that runs. Conditions: each theorem's own premises. -/
import Derived.Test.YtiohpmcedfbcgabDoorProcNew
import Derived.Deep.LoopGhost
import Derived.Deep.DeepCutAuto
namespace Go.Proofs.YtiohpmcedfbcgabDoor
open Go.RowKit
set_option linter.unusedVariables false

theorem kill_range {w : World} (tb : Nat) (pid s : Int) (h : ¬ (1 ≤ s ∧ s ≤ 8)) :
    Calls Tryd.prog 38 #[.pointer (some ⟨tb, 0, none⟩), .int .i64 pid, .int .i64 s] w fun e w' => e = .returned (.iface 40 (.int .i64 2)) ∧ w = w' := by
  have HS := hid (sig_no s h)
  clear h
  go_enter Tryd.func38, Tryd.ntmps38
  go_wp2_with fail
  refine (HS.out w).mono ?_
  rintro e w1 ⟨rfl, rfl⟩
  go_wp2_with fail
  go_ret
  exact ⟨rfl, rfl⟩
theorem kill_missing {w : World} {tb mb : Nat} {l : List (Int × Nat)} {f : Nat → Pr} (h : TabIs w tb mb l f) (pid s : Int) (hr : ¬ RunsIn l f pid) (h1 : 1 ≤ s) (h8 : s ≤ 8) :
    Calls Tryd.prog 38 #[.pointer (some ⟨tb, 0, none⟩), .int .i64 pid, .int .i64 s] w fun e w' => e = .returned (.iface 40 (.int .i64 7)) ∧ w = w' := by
  have HS := hid (sig_yes s h1 h8)
  have HR := hid (runs_no h pid hr)
  clear h hr
  go_enter Tryd.func38, Tryd.ntmps38
  go_wp2_with fail
  refine (HS.out w).mono ?_
  rintro e w1 ⟨rfl, rfl⟩
  go_wp2_with fail
  refine HR.out.mono ?_
  rintro e w1 ⟨rfl, rfl⟩
  go_wp2_with fail
  go_ret
  exact ⟨rfl, rfl⟩
theorem ignore_range {w : World} (tb : Nat) (pid s : Int) (on : Bool) (h : ¬ (1 ≤ s ∧ s ≤ 8)) :
    Calls Tryd.prog 40 #[.pointer (some ⟨tb, 0, none⟩), .int .i64 pid, .int .i64 s, .bool on] w fun e w' => e = .returned (.iface 40 (.int .i64 2)) ∧ w = w' := by
  have HS := hid (sig_no s h)
  clear h
  go_enter Tryd.func40, Tryd.ntmps40
  go_wp2_with fail
  refine (HS.out w).mono ?_
  rintro e w1 ⟨rfl, rfl⟩
  go_wp2_with fail
  go_ret
  exact ⟨rfl, rfl⟩
theorem ignore_missing {w : World} {tb mb : Nat} {l : List (Int × Nat)} {f : Nat → Pr} (h : TabIs w tb mb l f) (pid s : Int) (on : Bool) (hr : ¬ RunsIn l f pid) (h1 : 1 ≤ s) (h8 : s ≤ 8) :
    Calls Tryd.prog 40 #[.pointer (some ⟨tb, 0, none⟩), .int .i64 pid, .int .i64 s, .bool on] w fun e w' => e = .returned (.iface 40 (.int .i64 7)) ∧ w = w' := by
  have HS := hid (sig_yes s h1 h8)
  have HR := hid (runs_no h pid hr)
  clear h hr
  go_enter Tryd.func40, Tryd.ntmps40
  go_wp2_with fail
  refine (HS.out w).mono ?_
  rintro e w1 ⟨rfl, rfl⟩
  go_wp2_with fail
  refine HR.out.mono ?_
  rintro e w1 ⟨rfl, rfl⟩
  go_wp2_with fail
  go_ret
  exact ⟨rfl, rfl⟩
theorem ignore_last {w : World} {tb mb : Nat} {l : List (Int × Nat)} {f : Nat → Pr} (h : TabIs w tb mb l f) (pid : Int) (on : Bool) (hr : RunsIn l f pid) :
    Calls Tryd.prog 40 #[.pointer (some ⟨tb, 0, none⟩), .int .i64 pid, .int .i64 8, .bool on] w fun e w' => e = .returned (.iface 40 (.int .i64 6)) ∧ w = w' := by
  have HS := hid (sig_yes 8 (by decide) (by decide))
  have HR := hid (runs_yes h pid hr)
  clear h hr
  go_enter Tryd.func40, Tryd.ntmps40
  go_wp2_with fail
  refine (HS.out w).mono ?_
  rintro e w1 ⟨rfl, rfl⟩
  go_wp2_with fail
  refine HR.out.mono ?_
  rintro e w1 ⟨rfl, rfl⟩
  go_wp2_with fail
  go_ret
  exact ⟨rfl, rfl⟩
theorem take_missing {w : World} {tb mb : Nat} {l : List (Int × Nat)} {f : Nat → Pr} (h : TabIs w tb mb l f) (pid : Int) (hr : ¬ RunsIn l f pid) :
    Calls Tryd.prog 42 #[.pointer (some ⟨tb, 0, none⟩), .int .i64 pid] w fun e w' => e = .returned (.int .i64 0) ∧ w = w' := by
  have HR := hid (runs_no h pid hr)
  clear h hr
  go_enter Tryd.func42, Tryd.ntmps42
  go_wp2_with fail
  refine HR.out.mono ?_
  rintro e w1 ⟨rfl, rfl⟩
  go_wp2_with fail
  go_ret
  exact ⟨rfl, rfl⟩

def offR (W s : Nat) : Nat := W &&& (511 ^^^ 2 ^ s)
theorem offR_lt {W s : Nat} (h : W < 512) (hs : s ≤ 8) : offR W s < 512 := andNot_lt ⟨W, h⟩ ⟨s, by omega⟩
def ignR (on : Bool) (p : Pr) (W I s : Nat) : Pr := if on then { p with waits := (offR W s : Nat), ignores := (offR I s ||| 2 ^ s : Nat) } else { p with ignores := (offR I s : Nat) }
set_option maxRecDepth 100000 in
theorem ignore_runs {w : World} {tb mb : Nat} {l : List (Int × Nat)} {f : Nat → Pr} (h : TabIs w tb mb l f) (pid : Int) (b s W I : Nat) (on : Bool) (hr : RunsIn l f pid) (hb : mget l pid = some b) (h1 : 1 ≤ s) (h7 : s ≤ 7)
    (hW : (f b).waits = W) (hI : (f b).ignores = I) (hW9 : W < 512) (hI9 : I < 512) :
    Calls Tryd.prog 40 #[.pointer (some ⟨tb, 0, none⟩), .int .i64 pid, .int .i64 s, .bool on] w fun e w' => e = .returned .nilIface ∧ TabIs w' tb mb l (updP f b (ignR on (f b) W I s)) ∧ Turn (fun k => k = b) w w' := by
  have hm := mem_of_mget hb
  have hp := h.pr _ hm
  simp only at hp
  have HP := hid hp
  have H := hid h
  have HM := hid hm
  have hh := h.hdr
  have lk := lookup_pid h.mp pid
  unfold whereP at lk
  rw [hb] at lk
  simp only [Option.elim, ptr] at lk
  have HR := hid (runs_yes h pid hr)
  have c3 := hp.c3
  have c4 := hp.c4
  have f3 := hp.fz 3
  have f4 := hp.fz 4
  rw [hW] at c3
  rw [hI] at c4
  have HS := hid (sig_yes s (by omega) (by omega))
  have ba := bit_andNot ⟨I, hI9⟩ ⟨s, by omega⟩
  have bo := bit_or ⟨offR I s, offR_lt hI9 (by omega)⟩ ⟨s, by omega⟩
  have bw := bit_andNot ⟨W, hW9⟩ ⟨s, by omega⟩
  have wb := wrap_bit ⟨s, by omega⟩
  simp only at ba bo bw wb
  have h1' : (1 : Int) ≤ s := by omega
  have hs0 : (0 : Int) ≤ s := by omega
  have hst : ((s : Int)).toNat = s := Int.toNat_natCast s
  have hs8 : ((s : Int) == 8) = false := beq_eq_false_iff_ne.2 (by omega)
  have HW := hid hW
  clear h hr hp hb hm hW hI
  go_enter Tryd.func40, Tryd.ntmps40
  go_wp2_with fail
  refine (HS.out w).mono ?_
  rintro e w1 ⟨rfl, rfl⟩
  go_wp2_with fail
  refine HR.out.mono ?_
  rintro e w1 ⟨rfl, rfl⟩
  go_upto_region 8 with fail
  go_cut [37] (fun _ wx => Hid (PrAt wx b { f b with ignores := (offR I s : Nat) }) ∧ Hid (Turn (fun k => k = b) w wx))
  case first =>
    go_region
    all_goals go_wp2_with fail
    all_goals go_meet
    all_goals exact ⟨hid (HP.out.setIgnores _).drew, hid (turn_setD _ _ _ _)⟩
  case rest =>
    obtain ⟨HP1, HT1⟩ := hcut
    clear c3 c4 f3 f4 ba lk hh
    cases on with
    | false =>
      go_wp2_with fail
      go_ret
      exact ⟨rfl, H.out.upd HM.out HT1.out HP1.out, HT1.out⟩
    | true =>
      have c4 := HP1.out.c4
      have f4 := HP1.out.fz 4
      simp only at c4
      go_upto_region 10 with fail
      go_cut [47] (fun _ wx => Hid (PrAt wx b { f b with ignores := (offR I s ||| 2 ^ s : Nat) }) ∧ Hid (Turn (fun k => k = b) w wx))
      case first =>
        go_region
        all_goals go_wp2_with fail
        all_goals go_meet
        all_goals exact ⟨hid (HP1.out.setIgnores _).drew, hid (HT1.out.trans (turn_setD _ _ _ _))⟩
      case rest =>
        obtain ⟨HP2, HT2⟩ := hcut
        clear c4 f4 bo
        have c3 := HP2.out.c3
        have f3 := HP2.out.fz 3
        simp only at c3
        rw [HW.out] at c3
        go_wp2_with fail
        go_region
        all_goals go_wp2_with fail
        all_goals go_ret
        all_goals exact ⟨rfl, H.out.upd HM.out (HT2.out.trans (turn_setD _ _ _ _)) (HP2.out.setWaits _).drew, HT2.out.trans (turn_setD _ _ _ _)⟩

/-- The least signal that waits (0: none does). -/
def LeastSig (W r : Nat) : Prop := (1 ≤ r ∧ r ≤ 8 ∧ W.testBit r = true ∧ ∀ i, 1 ≤ i → i < r → W.testBit i = false) ∨ (r = 0 ∧ ∀ i, 1 ≤ i → i ≤ 8 → W.testBit i = false)
def takenR (p : Pr) (W r : Nat) : Pr := if r = 0 then p else { p with waits := (offR W r : Nat) }
theorem bit_one : ∀ (w : Fin 512) (s : Fin 9), (bits BinOp.and IntKind.i64 (((w.val : Nat) : Int) / 2 ^ s.val) 1 == 1) = w.val.testBit s.val := by decide +kernel
set_option maxRecDepth 100000 in
theorem take_runs {w : World} {tb mb : Nat} {l : List (Int × Nat)} {f : Nat → Pr} (h : TabIs w tb mb l f) (pid : Int) (b W : Nat) (hr : RunsIn l f pid) (hb : mget l pid = some b)
    (hW : (f b).waits = W) (hW9 : W < 512) :
    Calls Tryd.prog 42 #[.pointer (some ⟨tb, 0, none⟩), .int .i64 pid] w fun e w' => ∃ r, LeastSig W r ∧ e = .returned (.int .i64 (r : Nat)) ∧ TabIs w' tb mb l (updP f b (takenR (f b) W r)) ∧ Turn (fun k => k = b) w w' := by
  have hm := mem_of_mget hb
  have hp := h.pr _ hm
  simp only at hp
  have HP := hid hp
  have H := hid h
  have HM := hid hm
  have hh := h.hdr
  have lk := lookup_pid h.mp pid
  unfold whereP at lk
  rw [hb] at lk
  simp only [Option.elim, ptr] at lk
  have HR := hid (runs_yes h pid hr)
  have c3 := hp.c3
  have f3 := hp.fz 3
  rw [hW] at c3
  have HW := hid hW
  clear h hr hp hb hm hW
  go_enter Tryd.func42, Tryd.ntmps42
  go_wp2_with fail
  refine HR.out.mono ?_
  rintro e w1 ⟨rfl, rfl⟩
  go_wp2_with fail
  go_loopg [6] 8 (fun g sv wr => ∃ s : Nat, s + g = 9 ∧ 1 ≤ s ∧ sv = .int .i64 s ∧ Hid (∀ i, 1 ≤ i → i < s → W.testBit i = false) ∧ wr = w)
  case atStart => exact ⟨1, by omega, by omega, rfl, hid (fun i h1 h2 => absurd h1 (by omega)), rfl⟩
  case round =>
    obtain ⟨s, hsg, hs1, rfl, hno, rfl⟩ := hrel
    by_cases hs9 : s < 9
    · have hs8' : (s : Int) ≤ 8 := by omega
      have b1 := bit_one ⟨W, hW9⟩ ⟨s, by omega⟩
      have bw := bit_andNot ⟨W, hW9⟩ ⟨s, by omega⟩
      have wb := wrap_bit ⟨s, by omega⟩
      simp only at b1 bw wb
      have hs0 : (0 : Int) ≤ s := by omega
      have hst : ((s : Int)).toNat = s := Int.toNat_natCast s
      cases hbit : W.testBit s with
      | true =>
        have HB := hid hbit
        rw [hbit] at b1
        clear hbit
        go_wp2_with fail
        go_region
        all_goals go_wp2_with fail
        all_goals go_ret
        all_goals exact ⟨s, .inl ⟨hs1, by omega, HB.out, hno.out⟩, rfl, H.out.upd HM.out (turn_setD _ _ _ _) (by unfold takenR; rw [if_neg (by omega)]; exact (HP.out.setWaits _).drew), turn_setD _ _ _ _⟩
      | false =>
        have HB := hid hbit
        rw [hbit] at b1
        clear hbit
        go_wp2_with fail
        go_roundg (gk - 1)
        case measure => omega
        case rel =>
          refine ⟨s + 1, by omega, by omega, by go_num, hid (fun i h1 h2 => ?_), rfl⟩
          by_cases e : i = s
          · rw [e]; exact HB.out
          · exact hno.out i h1 (by omega)
    · have hs8' : ¬ (s : Int) ≤ 8 := by omega
      go_wp2_with fail
      go_ret
      exact ⟨0, .inr ⟨rfl, fun i h1 h2 => hno.out i h1 (by omega)⟩, rfl, H.out.upd HM.out (Turn.refl _ _) HP.out, Turn.refl _ _⟩
end Go.Proofs.YtiohpmcedfbcgabDoor
