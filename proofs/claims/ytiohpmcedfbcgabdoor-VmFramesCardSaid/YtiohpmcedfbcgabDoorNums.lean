/- Ints of an argument, at any place: slices.Index and slices.Contains. Conditions: each theorem's own premises. -/
import Derived.Test.YtiohpmcedfbcgabDoorInts
namespace Go.Proofs.YtiohpmcedfbcgabDoor
open Go.RowKit
set_option linter.unusedVariables false

def NumsAt (W : World) (b off : Nat) (xs : List Int) : Prop := ∀ (j : Nat) x, xs[j]? = some x → W.cell? ⟨b, off + j, none⟩ = some (.int .i64 x)
theorem NumsAt.turned {W w : World} {b off : Nat} {xs : List Int} {S : Nat → Prop} (h : NumsAt W b off xs) (t : Turn S W w) (hb : b < W.heap.size) (hn : ¬ S b) : NumsAt w b off xs := fun j x hx => (t.cell (a := ⟨b, off + j, none⟩) hb hn).trans (h j x hx)
set_option maxHeartbeats 1000000 in
theorem index_nums {w : World} {a : Option Addr} {xs : List Int} {cap : Nat} (h : xs ≠ [] → ∃ b off, a = some ⟨b, off, none⟩ ∧ NumsAt w b off xs) (x : Int) (hl : xs.length ≤ 1000000) :
    Calls Tryd.prog 116 #[.slice a xs.length cap, .int .i64 x] w (FoundInt xs x w) := by
  by_cases hx : xs = []
  · subst hx
    clear h
    go_enter Tryd.func116, Tryd.ntmps116
    go_wp2_with fail
    refine wp_loop_rounds 1 ?_
    rw [rounds_succ]
    go_wp2_with fail
    go_ret
    exact ⟨-1, rfl, rfl, .inl ⟨rfl, by simp⟩⟩
  · obtain ⟨b, off, rfl, hc⟩ := h hx
    have H := hid hc
    clear hc hx
    go_enter Tryd.func116, Tryd.ntmps116
    go_wp2_with fail
    go_loop [8] (fun i => ∃ j : Nat, j ≤ xs.length ∧ i = .int .i64 j ∧ x ∉ xs.take j) (fun i => xs.length - (intOf i).toNat)
    case atStart => exact ⟨0, Nat.zero_le _, rfl, by simp⟩
    case round =>
      obtain ⟨j, hj, rfl, hno⟩ := hrel
      have HN := hid hno
      clear hno
      by_cases hlt : j < xs.length
      · obtain ⟨y, hy⟩ : ∃ y, xs[j]? = some y := ⟨_, List.getElem?_eq_getElem hlt⟩
        have hcell := H.out j y hy
        have HY := hid hy
        clear hy
        by_cases hxy : x = y
        · have hb : (x == y) = true := beq_iff_eq.2 hxy
          have hb' : (y == x) = true := beq_iff_eq.2 hxy.symm
          have HX := hid hxy
          clear hxy
          go_wp2_with fail
          go_ret
          exact ⟨j, rfl, rfl, .inr ⟨j, by rw [HX.out]; exact HY.out, rfl⟩⟩
        · have hb : (x == y) = false := beq_eq_false_iff_ne.2 hxy
          have hb' : (y == x) = false := beq_eq_false_iff_ne.2 (fun e => hxy e.symm)
          have HX := hid hxy
          clear hxy
          go_wp2_with fail
          go_round
          case rel => exact ⟨j + 1, by omega, by go_num, by
            rw [List.take_add_one, HY.out]
            intro hm
            rcases List.mem_append.1 hm with hm | hm
            · exact HN.out hm
            · simp at hm; exact HX.out hm⟩
          case measure => simp [intOf]; omega
      · have hj' : j = xs.length := by omega
        subst hj'
        rw [List.take_length] at HN
        go_wp2_with fail
        go_ret
        exact ⟨-1, rfl, rfl, .inl ⟨rfl, HN.out⟩⟩
theorem contains_nums {w : World} {a : Option Addr} {xs : List Int} {cap : Nat} (h : xs ≠ [] → ∃ b off, a = some ⟨b, off, none⟩ ∧ NumsAt w b off xs) (x : Int) (hl : xs.length ≤ 1000000) :
    Calls Tryd.prog 54 #[.slice a xs.length cap, .int .i64 x] w fun e w' => e = .returned (.bool (decide (x ∈ xs))) ∧ w = w' := by
  have H := hid (index_nums h x hl (cap := cap))
  clear h
  go_enter Tryd.func54, Tryd.ntmps54
  go_wp2_with fail
  refine H.out.mono ?_
  rintro e w' ⟨r, rfl, rfl, ⟨rfl, hno⟩ | ⟨j, hj, rfl⟩⟩
  · have HNo := hid hno
    clear hno
    go_wp2_with fail
    go_ret
    exact ⟨ret_bool (decide_eq_false HNo.out).symm, rfl⟩
  · have HJ := hid (List.mem_of_getElem? hj)
    clear hj
    go_wp2_with fail
    go_ret
    exact ⟨ret_bool (decide_eq_true HJ.out).symm, rfl⟩
end Go.Proofs.YtiohpmcedfbcgabDoor
