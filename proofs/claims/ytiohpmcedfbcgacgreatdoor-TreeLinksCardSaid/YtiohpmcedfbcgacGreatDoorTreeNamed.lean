/- The laws' own fact 'named': a file in a directory. Conditions: each theorem's own premises. -/
import Derived.Test.YtiohpmcedfbcgacGreatDoorTreeLaw
namespace Go.Proofs.YtiohpmcedfbcgacGreatDoor
open Go.RowKit
set_option linter.unusedVariables false

def bD : ByteArray := ⟨#[47, 100]⟩
def bDF : ByteArray := ⟨#[47, 100, 47, 102]⟩
def nD : ByteArray := ⟨#[100]⟩
def nF : ByteArray := ⟨#[102]⟩
def T1n : PT := [(0, ⟨true, [(nD, 1)], ByteArray.empty, 1, 0⟩), (1, ⟨true, [], ByteArray.empty, 1, 0⟩)]
def T2n : PT := [(0, ⟨true, [(nD, 1)], ByteArray.empty, 1, 0⟩), (1, ⟨true, [(nF, 2)], ByteArray.empty, 1, 0⟩), (2, ⟨false, [], ByteArray.empty, 1, 0⟩)]
theorem named1 : makeE rootT bD = 0 ∧ makeK rootT bD = 1 ∧ makeT rootT bD true = T1n := ⟨by kernel_rfl, by kernel_rfl, by kernel_rfl⟩
theorem named2 : makeE T1n bDF = 0 ∧ makeK T1n bDF = 2 ∧ makeT T1n bDF false = T2n := ⟨by kernel_rfl, by kernel_rfl, by kernel_rfl⟩
theorem named3 : listE T2n bD = 0 ∧ listT T2n bD = [nF] := by
  have h1 : listE T2n bD = 0 := by kernel_rfl
  have h2 : (mget T2n (findT T2n bD).2).elim [] (·.ds) = [(nF, 2)] := by kernel_rfl
  refine ⟨h1, ?_⟩
  unfold listT
  rw [if_pos h1, h2]
  unfold sortedNs
  simp
set_option maxHeartbeats 2000000 in
set_option maxRecDepth 100000 in
theorem named_is (w : World) : Calls Tryz.prog 24 #[] w fun e w' => e = .returned (.bool true) ∧ Turn (fun _ => False) w w' := by
  have te : TErr 0 = .nilIface := rfl
  go_enter Tryz.func24, Tryz.ntmps24
  go_wp2_with fail
  refine (law_new w).mono ?_
  rintro e w1 ⟨tb, rfl, h1⟩
  have HM := hid (law_mkdir h1 bD (by decide))
  clear h1
  go_wp2_with fail
  refine HM.out.mono ?_
  rintro e w2 ⟨rfl, h2⟩
  rw [named1.1, named1.2.1]
  rw [named1.2.2] at h2
  have HC := hid (law_create h2 bDF (by decide))
  clear h2 HM
  go_wp2_with fail
  refine HC.out.mono ?_
  rintro e w3 ⟨rfl, h3⟩
  rw [named2.1, named2.2.1]
  rw [named2.2.2] at h3
  have HN := hid (fun w' (t : Turn (fun _ => False) w3 w') => law_nodes (h3.still t))
  have hl := law_list h3 bD (by decide) (fun n p hp => by
    have hm := mem_of_mget hp
    unfold T2n at hm
    simp only [List.mem_cons, List.not_mem_nil, or_false, Prod.mk.injEq] at hm
    rcases hm with ⟨_, rfl⟩ | ⟨_, rfl⟩ | ⟨_, rfl⟩ <;> decide)
  rw [named3.1, named3.2] at hl
  have HL := hid hl
  have HT3 := hid h3.turn
  clear h3 hl HC
  go_wp2_with fail
  refine HL.out.mono ?_
  rintro e w4 ⟨a, cap, rfl, hs, h4⟩
  obtain ⟨g, off, rfl, hg, hc⟩ := hs.resolve_left (by simp)
  have c0 := hc 0 nF rfl
  rw [Nat.add_zero] at c0
  have HT4 := hid h4.turn
  have HN4 := hid (law_nodes h4)
  have hlen : (T2n.length : Int) = 3 := rfl
  rw [hlen] at HN4
  have hnf : (nF.toList == [102]) = true := by decide +kernel
  clear hc hg h4 HL HN hlen
  go_wp2_with fail
  refine HN4.out.mono ?_
  rintro e w5 ⟨rfl, hw⟩; subst w5
  go_wp2_with fail
  go_returns
  exact ⟨rfl, HT4.out⟩
end Go.Proofs.YtiohpmcedfbcgacGreatDoor
