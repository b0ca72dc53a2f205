/- slices.Contains at blocks. Conditions: the blocks lie in memory. -/
import Derived.Test.YtiohpmcedfbcgabDoorBlocks
import Derived.Deep.QuietTactic
import Derived.BigQuiet
import Derived.Laws.StructEq
namespace Go.Proofs.YtiohpmcedfbcgabDoor
open Go.RowKit
set_option linter.unusedVariables false

theorem bk_guard : Tryd.prog.eqGuardType Tryd.prog.depth 36 = false := by kernel_rfl
theorem bk_eql (x y zx zy : Int) (w : World) : (binOp .eql 36 (.agg #[.int .i64 x, .int .i64 y]) (.agg #[.int .i64 zx, .int .i64 zy])).run Tryd.prog w = .ok (.bool (x == zx && y == zy)) w := by
  have u3 := Tryd.underlying3
  have a3 := Tryd.isAgg3
  have z3 := Tryd.sizeOf3
  have hS : Tryd.prog.underlying 36 = some (.struct (Tryd.prog.fieldsOf 36)) := by kernel_rfl
  have hp : Tryd.prog.stoodInHeld 36 = false := by kernel_rfl
  rw [run_eql_struct, show (10000 : Nat) = 9999 + 1 from rfl, run_equalIn_agg w 9999 36 _ _ hS hp]
  simp only [Program.fieldsOf, Tryd.underlying36]
  go_simp
  by_cases h1 : x = zx <;> by_cases h2 : y = zy <;> simp [h1, h2]

def FoundBk (l : List Bk) (t : Bk) (w : World) (e : Ending) (w' : World) : Prop :=
  ∃ r : Int, e = .returned (.int .i64 r) ∧ Turn (fun _ => False) w w' ∧ ((r = -1 ∧ t ∉ l) ∨ ∃ j : Nat, l[j]? = some t ∧ r = j)

set_option maxHeartbeats 2000000 in
theorem index_bks {w : World} {g cap : Nat} {l : List Bk} (h : BksAt w g 0 l) (hg : g < w.heap.size) (t : Bk) (hl : l.length ≤ 1000000) :
    Calls Tryd.prog 103 #[.slice (some ⟨g, 0, none⟩) l.length cap, .agg #[.int .i64 t.1, .int .i64 (t.2 : Int)]] w (FoundBk l t w) := by
  have H := hid h
  clear h
  obtain ⟨x, y⟩ := t
  have hgd := fun (w : World) (x y : Operand) (xs ys : Array Value) => run_eqGuard_agg (P := Tryd.prog) (w := w) .eql 36 x y xs ys bk_guard
  go_enter Tryd.func103, Tryd.ntmps103
  go_wp2_with fail
  go_loopw [8] (fun i wr => ∃ j : Nat, j ≤ l.length ∧ i = .int .i64 j ∧ (x, y) ∉ l.take j ∧ Turn (fun _ => False) (w.alloc (.cells #[.int .i64 x, .int .i64 (y : Int)] 36)) wr) (fun i _ => l.length - (intOf i).toNat)
  case atStart => exact ⟨0, Nat.zero_le _, rfl, by simp, Turn.refl _ _⟩
  case round =>
    obtain ⟨j, hj, rfl, hno, hT⟩ := hrel
    have HN := hid hno
    have HT := hid hT
    clear hno hT
    have e0 : wr.cell? ⟨w.heap.size, 0, none⟩ = some (.int .i64 x) := (HT.out.cell (a := ⟨w.heap.size, 0, none⟩) (by simp) id).trans (by simp)
    have e1 : wr.cell? ⟨w.heap.size, 1, none⟩ = some (.int .i64 (y : Int)) := (HT.out.cell (a := ⟨w.heap.size, 1, none⟩) (by simp) id).trans (by simp)
    by_cases hlt : j < l.length
    · obtain ⟨z, hz⟩ : ∃ z, l[j]? = some z := ⟨_, List.getElem?_eq_getElem hlt⟩
      obtain ⟨zx, zy⟩ := z
      obtain ⟨c0, c1⟩ := (H.out.turned (((Turn.refl (fun _ => False) _).alloc _).trans HT.out) hg id) j _ hz
      simp only [Nat.zero_add] at c0 c1
      have HZ := hid hz
      clear hz
      by_cases he : (zx, zy) = (x, y)
      · have heq : ∀ w, (binOp .eql 36 (.agg #[.int .i64 x, .int .i64 (y : Int)]) (.agg #[.int .i64 zx, .int .i64 (zy : Int)])).run Tryd.prog w = .ok (.bool true) w := fun w => by
          cases he
          rw [bk_eql]; simp
        have HE := hid he
        clear he
        go_wp2_with fail
        go_quiet (fail)
        go_wp2_with fail
        go_ret
        exact ⟨j, rfl, (((Turn.refl (fun _ => False) _).alloc _).trans HT.out).drewN _, .inr ⟨j, by rw [← HE.out]; exact HZ.out, rfl⟩⟩
      · have heq : ∀ w, (binOp .eql 36 (.agg #[.int .i64 x, .int .i64 (y : Int)]) (.agg #[.int .i64 zx, .int .i64 (zy : Int)])).run Tryd.prog w = .ok (.bool false) w := fun w => by
          rw [bk_eql]
          congr 2
          rw [Bool.eq_false_iff]
          intro h
          rw [Bool.and_eq_true, beq_iff_eq, beq_iff_eq] at h
          exact he (by rw [h.1, show zy = y by omega])
        have HE := hid he
        clear he
        go_wp2_with fail
        go_quiet (fail)
        go_wp2_with fail
        go_roundw
        case rel => exact ⟨j + 1, by omega, by go_num, by
          rw [List.take_add_one, HZ.out]
          intro hm
          rcases List.mem_append.1 hm with hm | hm
          · exact HN.out hm
          · simp only [Option.toList_some, List.mem_singleton] at hm
            exact HE.out hm.symm, HT.out.drewN _⟩
        case measure => simp [intOf]; omega
    · have hj' : j = l.length := by omega
      subst hj'
      rw [List.take_length] at HN
      go_wp2_with fail
      go_ret
      exact ⟨-1, rfl, ((Turn.refl (fun _ => False) _).alloc _).trans HT.out, .inl ⟨rfl, HN.out⟩⟩

theorem contains_bk {w : World} {g cap : Nat} {l : List Bk} (h : BksAt w g 0 l) (hg : g < w.heap.size) (t : Bk) (hl : l.length ≤ 1000000) :
    Calls Tryd.prog 21 #[.slice (some ⟨g, 0, none⟩) l.length cap, .agg #[.int .i64 t.1, .int .i64 (t.2 : Int)]] w fun e w' => e = .returned (.bool (decide (t ∈ l))) ∧ Turn (fun _ => False) w w' := by
  have T0 : Turn (fun _ => False) w (w.alloc (.cells #[.int .i64 t.1, .int .i64 (t.2 : Int)] 36)) := (Turn.refl _ _).alloc _
  have HI := hid (index_bks (cap := cap) (h.turned T0 hg id) (Nat.lt_of_lt_of_le hg T0.size) t hl)
  have HT0 := hid T0
  clear h T0
  obtain ⟨x, y⟩ := t
  obtain ⟨B, hB⟩ : ∃ B, decide ((x, y) ∈ l) = B := ⟨_, rfl⟩
  rw [hB]
  have HB := hid hB
  clear hB
  go_enter Tryd.func21, Tryd.ntmps21
  go_wp2_with fail
  refine HI.out.mono ?_
  rintro e w' ⟨r, rfl, t1, ⟨rfl, hno⟩ | ⟨j, hj, rfl⟩⟩
  · have HN := hid hno
    have HT := hid (HT0.out.trans t1)
    clear hno t1
    go_wp2_with fail
    go_ret
    exact ⟨by rw [← HB.out]; simp [HN.out], HT.out⟩
  · have HN := hid (List.mem_of_getElem? hj)
    have HT := hid (HT0.out.trans t1)
    clear hj t1
    go_wp2_with fail
    go_ret
    exact ⟨by rw [← HB.out]; simp [HN.out], HT.out⟩
end Go.Proofs.YtiohpmcedfbcgabDoor
