/- Package vm: New, NewStore. Conditions: each theorem's own premises. -/
import Derived.Test.YtiohpmcedfbcgabDoorVmLoad
namespace Go.Proofs.YtiohpmcedfbcgabDoor
open Go.RowKit
set_option linter.unusedVariables false

section
variable {w w' : World}
def NewStoreIs (n : Nat) (w : World) (e : Ending) (w' : World) : Prop :=
  ∃ (s : SB) (t : St), e = .returned (.tuple #[.pointer (some ⟨s.sb, 0, none⟩), .nilIface]) ∧ StoreIs w' s n t ∧ (∀ f, t.R f = 0) ∧ (∀ f k, t.m f k = 0) ∧ Turn (fun _ => False) w w' ∧ ∀ k, StFoot s t.vs k → w.heap.size ≤ k
set_option maxHeartbeats 1000000 in
set_option maxRecDepth 100000 in
theorem vmNewStore_is (n : Nat) (w : World) (h1 : 1 ≤ n) (h2 : n ≤ 256) : Calls Tryd.prog 68 #[.int .i64 n] w (NewStoreIs n w) := by
  have HN := hid (new_yes_nat n w h1 h2)
  go_enter Tryd.func68, Tryd.ntmps68
  go_wp2_with fail
  refine HN.out.mono ?_
  rintro e w1 ⟨mb, wb, rfl, hm, g1, g2, t1⟩
  have HM := hid hm
  have HT1 := hid t1
  have hz1 := t1.size
  clear hm t1 HN
  go_wp2_with fail
  refine (new_any (n : Int) _ (by omega) (by omega)).mono ?_
  rintro e w2 ⟨p, pmb, vs, fr, rfl, hp, hg, t2, hf⟩
  have HP := hid hp
  have HG := hid hg
  have HT2 := hid t2
  have HF := hid hf
  have hz2 := t2.size
  clear hp hg t2 hf
  have hmm := @run_makeMap Tryd.prog
  go_wp2_with fail
  go_ret2
  have hz : (w2.alloc (.map #[] 0)).heap.size = w2.heap.size + 1 := World.size_alloc _ _
  have TT : Turn (fun _ => False) w2 ((w2.alloc (.map #[] 0)).alloc (.cells #[.pointer (some ⟨mb, 0, none⟩), .pointer (some ⟨p, 0, none⟩), .map (some w2.heap.size)] 193)) := ((Turn.refl _ _).alloc _).alloc _
  have hlt := poolFoot_lt HP.out
  have hmlt := HM.out.lt_mb
  have hwlt := HM.out.lt_wb
  refine ⟨⟨w2.heap.size + 1, mb, wb, p, pmb, w2.heap.size⟩, ⟨vs, fr, [], [], fun _ _ => 0⟩, rfl, ⟨?_, ?_, ?_, (HM.out.turned HT2.out id id).turned TT id id, HP.out.turned TT (fun _ _ => id), HG.out, (MapIs.made w2).turned ((Turn.refl (fun _ => False) _).alloc _) id, fun _ => rfl, fun f k h => (by cases h), fun k hk => ?_, ?_⟩, fun _ => rfl, fun _ _ => rfl, (HT1.out.trans HT2.out).trans TT, fun k hk => ?_⟩
  · rw [← hz]; exact World.cell?_alloc_new _ _ _ _
  · rw [← hz]; exact World.cell?_alloc_new _ _ _ _
  · rw [← hz]; exact World.cell?_alloc_new _ _ _ _
  · have h3 := hlt k hk
    have h4 := HF.out k hk
    exact ⟨by simp only; omega, by simp only; omega, by simp only; omega, by simp only; omega⟩
  · exact ⟨by simp only; omega, by simp only; omega, by simp only; omega, by simp only; omega, by simp only; omega⟩
  · rcases hk with hk | hk | hk | hk | hk
    · rw [hk]; simp only; omega
    · rw [hk]; simp only; omega
    · rw [hk]; exact g1
    · rw [hk]; exact g2
    · exact Nat.le_trans hz1 (HF.out k hk)
theorem memNew_no (n : Int) (w : World) (h : n < 1 ∨ 256 < n) : Calls Tryd.prog 124 #[.int .i64 n] w fun e w' => e = .returned (.tuple #[.pointer none, .iface 40 (.int .i64 2)]) ∧ w = w' := by
  rcases h with h | h
  · go_enter Tryd.func124, Tryd.ntmps124
    go_wp2
    go_ret2
    exact ⟨rfl, rfl⟩
  · have h1 : ¬ n < 1 := by omega
    go_enter Tryd.func124, Tryd.ntmps124
    go_wp2
    go_ret2
    exact ⟨rfl, rfl⟩
set_option maxRecDepth 100000 in
theorem vmNewStore_no (n : Int) (w : World) (h : n < 1 ∨ 256 < n) : Calls Tryd.prog 68 #[.int .i64 n] w fun e w' => e = .returned (.tuple #[.pointer none, .iface 40 (.int .i64 2)]) ∧ w = w' := by
  have HN := hid (memNew_no n w h)
  go_enter Tryd.func68, Tryd.ntmps68
  go_wp2_with fail
  refine HN.out.mono ?_
  rintro e w1 ⟨rfl, rfl⟩
  go_wp2_with fail
  go_ret2
  exact ⟨rfl, rfl⟩
theorem vmNew_none (w : World) : Calls Tryd.prog 69 #[.pointer none] w fun e w' => e = .returned (.tuple #[.pointer none, .iface 40 (.int .i64 7)]) ∧ w = w' := by
  go_enter Tryd.func69, Tryd.ntmps69
  go_wp2_with fail
  go_ret2
  exact ⟨rfl, rfl⟩
def noP : Int → Option Pg := fun _ => none
def NewSpaceIs (sb : Nat) (w : World) (e : Ending) (w' : World) : Prop :=
  ∃ sp pm, e = .returned (.tuple #[.pointer (some ⟨sp, 0, none⟩), .nilIface]) ∧ SpIs w' sp pm sb noP ∧ Turn (fun _ => False) w w' ∧ w.heap.size ≤ sp ∧ w.heap.size ≤ pm
set_option maxRecDepth 100000 in
theorem vmNew_is (sb : Nat) (w : World) : Calls Tryd.prog 69 #[.pointer (some ⟨sb, 0, none⟩)] w (NewSpaceIs sb w) := by
  have hmm := @run_makeMap Tryd.prog
  go_enter Tryd.func69, Tryd.ntmps69
  go_wp2_with fail
  go_ret2
  have T1 : Turn (fun _ => False) (w.alloc (.map #[] 0)) ((w.alloc (.map #[] 0)).alloc (.cells #[.pointer (some ⟨sb, 0, none⟩), .map (some w.heap.size)] 196)) := (Turn.refl _ _).alloc _
  refine ⟨w.heap.size + 1, w.heap.size, by simp, ⟨by simp, by simp, ⟨[], (MapIs.made w).turned T1 id, fun i => rfl⟩, by omega, fun i p h => (by cases h), fun i p h => (by cases h)⟩, ((Turn.refl _ _).alloc _).alloc _, by omega, by omega⟩
end
end Go.Proofs.YtiohpmcedfbcgabDoor
