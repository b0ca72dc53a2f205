/- Package tree: New, Mkdir, Create. Conditions: each theorem's own premises. -/
import Derived.Test.YtiohpmcedfbcgacGreatDoorTreeHold
namespace Go.Proofs.YtiohpmcedfbcgacGreatDoor
open Go.RowKit
set_option linter.unusedVariables false

section
variable {w w' w1 w2 w3 : World} {tb nm b d c dn : Nat} {T T1 T2 : PT} {B D : Int → Nat} {F : Nat → Prop} {p p' nn : PN} {n k : Int}
def rootT : PT := [(0, ⟨true, [], ByteArray.empty, 1, 0⟩)]
theorem rootT_ok : TOk rootT := by
  have hget : ∀ n p, mget rootT n = some p → n = 0 ∧ p = ⟨true, [], ByteArray.empty, 1, 0⟩ := fun n p hp => by
    have h := mem_of_mget hp
    unfold rootT at h
    have h := List.mem_singleton.1 h
    cases h
    exact ⟨rfl, rfl⟩
  refine ⟨⟨_, rfl, rfl⟩, by simp [rootT, MNodup], fun n p hp => ?_, fun n p hp s m hm => ?_, fun n p hp hf => ?_, fun n p hp => ?_, fun n p hp => ?_, fun n p hp => ?_, by decide, fun n p hp => ?_⟩
  all_goals obtain ⟨rfl, rfl⟩ := hget n p hp
  · omega
  · cases hm
  · cases hf
  · rfl
  · exact List.nodup_nil
  · exact Nat.zero_le _
  · intro e he; cases he
def TreeNewIs (w : World) (e : Ending) (w' : World) : Prop := ∃ tb F, e = .returned (.pointer (some ⟨tb, 0, none⟩)) ∧ TreeIs w' tb rootT F ∧ Turn (fun _ => False) w w' ∧ ∀ k, F k → w.heap.size ≤ k
set_option maxHeartbeats 2000000 in
set_option maxRecDepth 100000 in
theorem treeNew_is (w : World) : Calls Tryz.prog 25 #[] w (TreeNewIs w) := by
  have hmm := @run_makeMap Tryz.prog
  obtain ⟨W2, hW2⟩ : ∃ W2, (w.alloc (.map #[] 0)).alloc (.map #[] 0) = W2 := ⟨_, rfl⟩
  have hs0 : (w.alloc (.map #[] 0)).heap.size = w.heap.size + 1 := World.size_alloc _ _
  have hs2 : W2.heap.size = w.heap.size + 2 := by rw [← hW2, World.size_alloc, hs0]
  obtain ⟨N, hN⟩ : ∃ N, Obj.cells #[.map (some (w.heap.size + 1)), .string ByteArray.empty, .int .i64 1, .int .i64 0] 168 = N := ⟨_, rfl⟩
  have t0 : Turn (fun _ => False) w (w.alloc (.map #[] 0)) := (Turn.refl _ _).alloc _
  have t1 : Turn (fun _ => False) (w.alloc (.map #[] 0)) W2 := by rw [← hW2]; exact (Turn.refl _ _).alloc _
  have t2 : Turn (fun _ => False) W2 (W2.alloc N) := (Turn.refl _ _).alloc _
  have HM : Hid (MapIs (W2.alloc N) w.heap.size (.int .i64) encI ptrV ([] : List (Int × Nat))) := hid (((MapIs.made w).turned t1 id).turned t2 id)
  have hmd : MapIs W2 (w.heap.size + 1) .string encS encI ([] : List (ByteArray × Int)) := by
    rw [← hW2, ← hs0]; exact MapIs.made _
  have HMd := hid (hmd.turned t2 id)
  have HNd : Hid (NdAt (W2.alloc N) (w.heap.size + 2) (w.heap.size + 1) ⟨true, [], ByteArray.empty, 1, 0⟩) := hid (by
    rw [← hs2]
    refine ⟨?_, ?_, ?_, ?_, fun i => by rw [← hN]; simp, fun _ => by rw [← hs2] at *; exact HMd.out⟩
    · rw [← hN]; exact World.cell?_alloc_new _ _ _ _
    · rw [← hN]; exact World.cell?_alloc_new _ _ _ _
    · rw [← hN]; exact World.cell?_alloc_new _ _ _ _
    · rw [← hN]; exact World.cell?_alloc_new _ _ _ _)
  have HT0 := hid ((t0.trans t1).trans t2)
  have HS := hid hs2
  have HW2 := hid hW2
  have HN := hid hN
  obtain ⟨w5, hrun, hm5, t5⟩ := HM.out.run_update (P := Tryz.prog) keyI Tryz.underlying169 Tryz.underlying3 (0 : Int) (w.heap.size + 2)
  have hC : W2.alloc N = ((w.alloc (.map #[] 0)).alloc (.map #[] 0)).alloc (.cells #[.map (some (w.heap.size + 1)), .string ⟨#[]⟩, .int .i64 1, .int .i64 0] 168) := by rw [← hN, ← hW2]; rfl
  replace hrun : (Instr.mapUpdate 169 (.map (some w.heap.size)) (.int .i64 0) (.pointer (some ⟨w.heap.size + 1 + 1, 0, none⟩))).run Tryz.prog (((w.alloc (.map #[] 0)).alloc (.map #[] 0)).alloc (.cells #[.map (some (w.heap.size + 1)), .string ⟨#[]⟩, .int .i64 1, .int .i64 0] 168)) = .ok () w5 := by rw [← hC]; exact hrun
  have hs5 : w.heap.size + 3 ≤ w5.heap.size := by
    have h1 := t5.size
    rw [World.size_alloc, hs2] at h1
    omega
  have t6 : Turn (fun _ => False) w5 (w5.alloc (.cells #[.map (some w.heap.size)] 171)) := (Turn.refl _ _).alloc _
  have hin : TreeIn (w5.alloc (.cells #[.map (some w.heap.size)] 171)) w5.heap.size w.heap.size rootT (fun _ => w.heap.size + 2) (fun _ => w.heap.size + 1) := by
    have hget : ∀ n p, mget rootT n = some p → n = 0 ∧ p = ⟨true, [], ByteArray.empty, 1, 0⟩ := fun n p hp => by
      have h := mem_of_mget hp
      unfold rootT at h
      have h := List.mem_singleton.1 h
      cases h
      exact ⟨rfl, rfl⟩
    refine ⟨World.cell?_alloc_new _ _ _ _, hm5.turned t6 id, fun n p hp => ?_, fun n m p q hp hq hne => ?_, fun n m p q hp hq _ _ hne => ?_, fun n m p q _ _ _ => by omega, fun n p hp => ⟨⟨by omega, by omega⟩, fun _ => ⟨by omega, by omega⟩⟩, by omega⟩
    · obtain ⟨_, rfl⟩ := hget n p hp
      exact (HNd.out.turned t5 (by omega) (fun _ => by omega)).turned t6 id (fun _ => id)
    · exact absurd ((hget n p hp).1.trans (hget m q hq).1.symm) hne
    · exact absurd ((hget n p hp).1.trans (hget m q hq).1.symm) hne
  have HIn := hid hin
  have HT6 : Hid (Turn (fun _ => False) w (w5.alloc (.cells #[.map (some w.heap.size)] 171))) := hid ((HT0.out.trans' (t5.trans (t6.mono (fun _ _ h => h.elim))) (fun k hk e => by omega)))
  have HS5 := hid hs5
  clear t0 t1 t2 hmd hs0 hs2 hW2 hN hm5 t5 hC t6 hin hs5
  go_enter Tryz.func25, Tryz.ntmps25
  go_wp2_with fail
  go_returns
  refine ⟨_, _, rfl, ⟨_, _, _, HIn.out, rootT_ok, rfl⟩, HT6.out, fun k hk => ?_⟩
  have h5 := HS5.out
  rcases hk with rfl | rfl | ⟨n, p, _, e | ⟨_, e⟩⟩
  · omega
  · omega
  · have e : k = w.heap.size + 2 := e
    omega
  · have e : k = w.heap.size + 1 := e
    omega
def nodeObj (dir : Option Nat) : Obj := .cells #[.map dir, .string ⟨#[]⟩, .int .i64 0, .int .i64 0] 168
theorem nodeObj_at (w : World) (dir : Option Nat) (d : Nat) (b : Bool) (hb : dir = if b then some d else none) (hd : b = true → MapIs w d .string encS encI ([] : List (ByteArray × Int))) : NdAt (w.alloc (nodeObj dir)) w.heap.size d ⟨b, [], ByteArray.empty, 0, 0⟩ := by
  subst hb
  exact ⟨World.cell?_alloc_new _ _ _ _, World.cell?_alloc_new _ _ _ _, World.cell?_alloc_new _ _ _ _, World.cell?_alloc_new _ _ _ _, fun i => by unfold nodeObj; simp, fun e => (hd e).turned (S := fun _ => False) ((Turn.refl _ _).alloc _) id⟩
theorem MakeTo.to {b : Bool} (h : MakeTo tb c dn b F w1 w2 T2) (t : Turn (fun _ => False) w w1) (hc : w.heap.size ≤ c) (hd : b = true → w.heap.size ≤ dn) : TreeTo tb F w w2 T2 := by
  obtain ⟨F', a, t2, hF⟩ := h
  refine ⟨F', a, (t.mono (fun _ _ h => h.elim)).trans' t2 (fun k hk e => e.elim id (fun e => by omega)), fun k hk => ?_⟩
  rcases hF k hk with h1 | h1 | ⟨h1, h2⟩
  · exact .inl h1
  · exact .inr (by omega)
  · exact .inr (by rw [h2]; exact hd h1)
set_option maxHeartbeats 2000000 in
set_option maxRecDepth 100000 in
theorem create_is (h : TreeIs w tb T F) (path : ByteArray) (hs : path.size < 4294967281) :
    Calls Tryz.prog 26 #[.pointer (some ⟨tb, 0, none⟩), .string path] w fun e w' => e = .returned (.tuple #[.int .i64 (makeK T path), TErr (makeE T path)]) ∧ TreeTo tb F w w' (makeT T path false) := by
  have t1 : Turn (fun _ => False) w (w.alloc (nodeObj none)) := (Turn.refl _ _).alloc _
  have HM := hid (make_is (c := w.heap.size) (dn := 0) (h.turned t1 (fun _ _ => id)) path hs false (nodeObj_at w none 0 false rfl (fun e => by cases e)) (fun hf => by have := h.foot_lt _ hf; omega) (fun e => by cases e))
  have HT := hid t1
  unfold nodeObj at HM HT
  clear h t1
  go_enter Tryz.func26, Tryz.ntmps26
  go_wp2_with fail
  refine HM.out.mono ?_
  rintro e w2 ⟨rfl, hto⟩
  have HTo := hid hto
  clear hto
  go_wp2_with fail
  go_returns
  exact ⟨rfl, HTo.out.to HT.out (Nat.le_refl _) (fun e => by cases e)⟩
set_option maxHeartbeats 2000000 in
set_option maxRecDepth 100000 in
theorem mkdir_is (h : TreeIs w tb T F) (path : ByteArray) (hs : path.size < 4294967281) :
    Calls Tryz.prog 93 #[.pointer (some ⟨tb, 0, none⟩), .string path] w fun e w' => e = .returned (.tuple #[.int .i64 (makeK T path), TErr (makeE T path)]) ∧ TreeTo tb F w w' (makeT T path true) := by
  have hmm := @run_makeMap Tryz.prog
  have t0 : Turn (fun _ => False) w (w.alloc (.map #[] 0)) := (Turn.refl _ _).alloc _
  have t1 : Turn (fun _ => False) (w.alloc (.map #[] 0)) ((w.alloc (.map #[] 0)).alloc (nodeObj (some w.heap.size))) := (Turn.refl _ _).alloc _
  have hsz : (w.alloc (.map #[] 0)).heap.size = w.heap.size + 1 := World.size_alloc _ _
  have nd := nodeObj_at (w.alloc (.map #[] 0)) (some w.heap.size) w.heap.size true rfl (fun _ => MapIs.made w)
  rw [hsz] at nd
  have HM := hid (make_is (c := w.heap.size + 1) (dn := w.heap.size) (h.turned (t0.trans t1) (fun _ _ => id)) path hs true nd (fun hf => by have := h.foot_lt _ hf; omega) (fun _ => ⟨fun hf => by have := h.foot_lt _ hf; omega, by omega⟩))
  have HT := hid (t0.trans t1)
  unfold nodeObj at HM HT
  clear h t0 t1 hsz nd
  go_enter Tryz.func93, Tryz.ntmps93
  go_wp2_with fail
  refine HM.out.mono ?_
  rintro e w2 ⟨rfl, hto⟩
  have HTo := hid hto
  clear hto
  go_wp2_with fail
  go_returns
  exact ⟨rfl, HTo.out.to HT.out (by omega) (fun _ => Nat.le_refl _)⟩
end
end Go.Proofs.YtiohpmcedfbcgacGreatDoor
