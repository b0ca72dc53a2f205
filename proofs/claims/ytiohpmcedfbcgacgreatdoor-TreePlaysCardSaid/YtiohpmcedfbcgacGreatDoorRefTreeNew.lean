/- The document's tree: NewTree. Conditions: each theorem's own premises. -/
import Derived.Test.YtiohpmcedfbcgacGreatDoorRefTreeChange
import Derived.Test.YtiohpmcedfbcgacGreatDoorTreeNew
namespace Go.Proofs.YtiohpmcedfbcgacGreatDoor
open Go.RowKit
set_option linter.unusedVariables false
def RTreeNewIs (w : World) (e : Ending) (w' : World) : Prop := ∃ rb F, e = .returned (.pointer (some ⟨rb, 0, none⟩)) ∧ RTreeIs w' rb rootT F ∧ Turn (fun _ => False) w w' ∧ ∀ k, F k → w.heap.size ≤ k
set_option maxHeartbeats 2000000 in
set_option maxRecDepth 100000 in
theorem rtreeNew_is (w : World) : Calls Tryz.prog 32 #[] w (RTreeNewIs w) := by
  have hmm := @run_makeMap Tryz.prog
  obtain ⟨W2, hW2⟩ : ∃ W2, (w.alloc (.map #[] 0)).alloc (.map #[] 0) = W2 := ⟨_, rfl⟩
  have hs0 : (w.alloc (.map #[] 0)).heap.size = w.heap.size + 1 := World.size_alloc _ _
  have hs2 : W2.heap.size = w.heap.size + 2 := by rw [← hW2, World.size_alloc, hs0]
  have t0 : Turn (fun _ => False) w (w.alloc (.map #[] 0)) := (Turn.refl _ _).alloc _
  have t1 : Turn (fun _ => False) (w.alloc (.map #[] 0)) W2 := by rw [← hW2]; exact (Turn.refl _ _).alloc _
  have HM : Hid (MapIs W2 w.heap.size (.int .i64) encI rnodeV ([] : List (Int × (Nat × PN)))) := hid ((MapIs.made w).turned t1 id)
  have hmd : MapIs W2 (w.heap.size + 1) .string encS encI ([] : List (ByteArray × Int)) := by
    rw [← hW2, ← hs0]; exact MapIs.made _
  have HT0 := hid (t0.trans t1)
  have HS := hid hs2
  have HW2 := hid hW2
  obtain ⟨w5, hrun, hm5, t5⟩ := HM.out.run_update (P := Tryz.prog) keyI Tryz.underlying61 Tryz.underlying3 (0 : Int) (w.heap.size + 1, ⟨true, [], ByteArray.empty, 1, 0⟩)
  replace hrun : (Instr.mapUpdate 61 (.map (some w.heap.size)) (.int .i64 0) (.agg #[.map (some (w.heap.size + 1)), .bool true, .string ⟨#[]⟩, .int .i64 0])).run Tryz.prog ((w.alloc (.map #[] 0)).alloc (.map #[] 0)) = .ok () w5 := by rw [hW2]; exact hrun
  have hs5 : w.heap.size + 2 ≤ w5.heap.size := by
    have h1 := t5.size
    omega
  have t6 : Turn (fun _ => False) w5 (w5.alloc (.cells #[.map (some w.heap.size)] 63)) := (Turn.refl _ _).alloc _
  have hin : RTreeIn (w5.alloc (.cells #[.map (some w.heap.size)] 63)) w5.heap.size w.heap.size rootT (fun _ => w.heap.size + 1) := by
    have hget : ∀ n p, mget rootT n = some p → n = 0 ∧ p = ⟨true, [], ByteArray.empty, 1, 0⟩ := fun n p hp => by
      have h := mem_of_mget hp
      unfold rootT at h
      have h := List.mem_singleton.1 h
      cases h
      exact ⟨rfl, rfl⟩
    refine ⟨World.cell?_alloc_new _ _ _ _, hm5.turned t6 id, fun n p hp _ => ?_, fun n m p q hp hq _ _ hne => ?_, fun n p hp _ => ⟨by omega, by omega⟩, by omega⟩
    · obtain ⟨_, rfl⟩ := hget n p hp
      exact (hmd.turned t5 (fun e => by omega)).turned t6 id
    · exact absurd ((hget n p hp).1.trans (hget m q hq).1.symm) hne
  have HIn := hid hin
  have HT6 : Hid (Turn (fun _ => False) w (w5.alloc (.cells #[.map (some w.heap.size)] 63))) := hid ((HT0.out.trans' (t5.trans (t6.mono (fun _ _ h => h.elim))) (fun k hk e => by omega)))
  have HS5 := hid hs5
  clear t0 t1 hmd hs0 hs2 hW2 hm5 t5 t6 hin hs5
  go_enter Tryz.func32, Tryz.ntmps32
  go_wp2_with fail
  go_returns
  refine ⟨_, _, rfl, ⟨_, _, HIn.out, rfl⟩, HT6.out, fun k hk => ?_⟩
  have h5 := HS5.out
  rcases hk with rfl | rfl | ⟨n, p, _, _, e⟩
  · omega
  · omega
  · have e : k = w.heap.size + 1 := e
    omega
end Go.Proofs.YtiohpmcedfbcgacGreatDoor
