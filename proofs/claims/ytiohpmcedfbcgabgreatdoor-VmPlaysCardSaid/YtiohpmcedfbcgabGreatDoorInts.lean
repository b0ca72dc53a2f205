/- Slices of ints that a program owns: Index, Contains, Min of package slices. Conditions: each theorem's own premises. -/
import Derived.Test.YtiohpmcedfbcgabGreatDoorProg
import Derived.Test.YtiohpmcedfbcgabGreatDoorBase
import Derived.BigRegion
namespace Go.Proofs.YtiohpmcedfbcgabGreatDoor
open Go.RowKit
set_option linter.unusedVariables false

/-- v is a slice of the ints xs, in a block of its own. -/
def IntsAt (w : World) (v : Value) (xs : List Int) : Prop := w.ownsRow 0 3 1 v xs.length (xs.map (Value.int .i64))

theorem IntsAt.shape {w : World} {v : Value} {xs : List Int} (h : IntsAt w v xs) : (v = .slice none 0 0 ∧ xs = []) ∨ ∃ g cap, v = .slice (some ⟨g, 0, none⟩) xs.length cap ∧ xs.length ≤ cap ∧ cap ≤ maxLen ∧ g < w.heap.size := by
  obtain ⟨_, h0 | ⟨g, cap, cur, rfl, _, hg, h1, h2, _⟩⟩ := h
  · exact .inl ⟨h0.1, List.length_eq_zero_iff.1 h0.2⟩
  · exact .inr ⟨g, cap, rfl, h1, h2, (Array.getElem?_eq_some_iff.1 hg).1⟩
theorem IntsAt.cell {w : World} {g cap : Nat} {xs : List Int} (h : IntsAt w (.slice (some ⟨g, 0, none⟩) xs.length cap) xs) (j : Nat) (x : Int) (hj : xs[j]? = some x) : w.cell? ⟨g, j, none⟩ = some (.int .i64 x) := by
  have hl := (List.getElem?_eq_some_iff.1 hj).1
  rw [World.ownsRow.cellAt h j (by omega), List.getElem?_map, hj]; rfl
theorem IntsAt.frozen {w : World} {g cap : Nat} {xs : List Int} (h : IntsAt w (.slice (some ⟨g, 0, none⟩) xs.length cap) xs) (j : Nat) : w.frozen? ⟨g, j, none⟩ = false := World.ownsRow.frozenAt h j
theorem IntsAt.turned {S : Nat → Prop} {w w' : World} {v : Value} {xs : List Int} (h : IntsAt w v xs) (t : Turn S w w') (hn : ∀ g, v.ownBlock = some g → ¬ S g) : IntsAt w' v xs := by
  refine ⟨h.1, ?_⟩
  rcases h.2 with h0 | ⟨g, cap, cur, rfl, hb, hg, r⟩
  · exact .inl h0
  · exact .inr ⟨g, cap, cur, rfl, hb, (t.block g (Array.getElem?_eq_some_iff.1 hg).1 (hn g rfl)).trans hg, r⟩

def FoundInt (xs : List Int) (x : Int) (w : World) (e : Ending) (w' : World) : Prop :=
  ∃ r : Int, e = .returned (.int .i64 r) ∧ w = w' ∧ ((r = -1 ∧ x ∉ xs) ∨ ∃ j : Nat, xs[j]? = some x ∧ r = j)

set_option maxHeartbeats 1000000 in
theorem index_ints {w : World} {v : Value} {xs : List Int} (h : IntsAt w v xs) (x : Int) (hl : xs.length ≤ 1000000) :
    Calls Tryz.prog 260 #[v, .int .i64 x] w (FoundInt xs x w) := by
  rcases h.shape with ⟨rfl, rfl⟩ | ⟨g, cap, rfl, _, _, _⟩
  · clear h
    go_enter Tryz.func260, Tryz.ntmps260
    go_wp2_with fail
    refine wp_loop_rounds 1 ?_
    rw [rounds_succ]
    go_wp2_with fail
    go_ret
    exact ⟨-1, rfl, rfl, .inl ⟨rfl, by simp⟩⟩
  · have H := hid h
    clear h
    go_enter Tryz.func260, Tryz.ntmps260
    go_wp2_with fail
    go_loop [8] (fun i => ∃ j : Nat, j ≤ xs.length ∧ i = .int .i64 j ∧ x ∉ xs.take j) (fun i => xs.length - (intOf i).toNat)
    case atStart => exact ⟨0, Nat.zero_le _, rfl, by simp⟩
    case round =>
      obtain ⟨j, hj, rfl, hno⟩ := hrel
      have HN := hid hno
      clear hno
      by_cases hlt : j < xs.length
      · obtain ⟨y, hy⟩ : ∃ y, xs[j]? = some y := ⟨_, List.getElem?_eq_getElem hlt⟩
        have hc := H.out.cell j y hy
        have HY := hid hy
        clear hy
        by_cases hxy : x = y
        · have hb : (x == y) = true := beq_iff_eq.2 hxy
          have HX := hid hxy
          clear hxy
          go_wp2_with fail
          go_ret
          exact ⟨j, rfl, rfl, .inr ⟨j, by rw [HX.out]; exact HY.out, rfl⟩⟩
        · have hb : (x == y) = false := beq_eq_false_iff_ne.2 hxy
          have HX := hid hxy
          clear hxy
          go_wp2_with fail
          go_round
          case rel => exact ⟨j + 1, by omega, by go_num, by
            rw [List.take_add_one, HY.out]
            intro hm
            rcases List.mem_append.1 hm with hm | hm
            · exact HN.out hm
            · simp at hm; exact HX.out hm⟩
          case measure => simp [intOf]; omega
      · have hj' : j = xs.length := by omega
        subst hj'
        rw [List.take_length] at HN
        go_wp2_with fail
        go_ret
        exact ⟨-1, rfl, rfl, .inl ⟨rfl, HN.out⟩⟩

theorem contains_yes {w : World} {v : Value} {xs : List Int} (h : IntsAt w v xs) (x : Int) (hl : xs.length ≤ 1000000) (hx : x ∈ xs) :
    Calls Tryz.prog 207 #[v, .int .i64 x] w fun e w' => e = .returned (.bool true) ∧ w = w' := by
  have H := hid h
  have HX := hid hx
  clear h hx
  go_enter Tryz.func207, Tryz.ntmps207
  go_wp2_with fail
  refine (index_ints H.out x hl).mono ?_
  rintro e w' ⟨r, rfl, rfl, ⟨_, hno⟩ | ⟨j, hj, rfl⟩⟩
  · exact absurd HX.out hno
  · clear hj
    go_wp2_with fail
    go_ret
    exact ⟨rfl, rfl⟩
theorem contains_no {w : World} {v : Value} {xs : List Int} (h : IntsAt w v xs) (x : Int) (hl : xs.length ≤ 1000000) (hx : x ∉ xs) :
    Calls Tryz.prog 207 #[v, .int .i64 x] w fun e w' => e = .returned (.bool false) ∧ w = w' := by
  have H := hid h
  have HX := hid hx
  clear h hx
  go_enter Tryz.func207, Tryz.ntmps207
  go_wp2_with fail
  refine (index_ints H.out x hl).mono ?_
  rintro e w' ⟨r, rfl, rfl, ⟨rfl, _⟩ | ⟨j, hj, rfl⟩⟩
  · go_wp2_with fail
    go_ret
    exact ⟨rfl, rfl⟩
  · exact absurd (List.mem_of_getElem? hj) HX.out

/-- The least of ints. -/
def leastOf (x : Int) (xs : List Int) : Int := xs.foldl (fun m y => if y < m then y else m) x
theorem leastOf_snoc (x : Int) (xs : List Int) (y : Int) : leastOf x (xs ++ [y]) = if y < leastOf x xs then y else leastOf x xs := by unfold leastOf; rw [List.foldl_append]; rfl

set_option maxHeartbeats 1000000 in
theorem min_ints {w : World} {v : Value} {x : Int} {xs : List Int} (h : IntsAt w v (x :: xs)) (hl : xs.length ≤ 1000000) :
    Calls Tryz.prog 136 #[v] w fun e w' => e = .returned (.int .i64 (leastOf x xs)) ∧ w = w' := by
  rcases h.shape with ⟨_, h0⟩ | ⟨g, cap, rfl, _, _, _⟩
  · cases h0
  · have H := hid h
    have hlen : (x :: xs).length = xs.length + 1 := rfl
    rw [hlen]
    have hc0 := h.cell 0 x rfl
    clear h hlen
    have hn : Hid (((xs.length + 1 : Nat) : Int) = (xs.length : Int) + 1) := hid (by omega)
    go_enter Tryz.func136, Tryz.ntmps136
    go_wp2_with fail
    go_loop [3, 4] (fun m i => ∃ j : Nat, j ≤ xs.length ∧ i = .int .i64 ((j : Int) + 1) ∧ m = .int .i64 (leastOf x (xs.take j))) (fun _ i => xs.length + 1 - (intOf i).toNat)
    case atStart => exact ⟨0, Nat.zero_le _, rfl, rfl⟩
    case round =>
      obtain ⟨j, hj, rfl, rfl⟩ := hrel
      by_cases hlt : j < xs.length
      · obtain ⟨y, hy⟩ : ∃ y, xs[j]? = some y := ⟨_, List.getElem?_eq_getElem hlt⟩
        have hc := H.out.cell (j + 1) y (by simpa using hy)
        have hs : Hid (leastOf x (xs.take (j + 1)) = if y < leastOf x (xs.take j) then y else leastOf x (xs.take j)) := hid (by rw [List.take_add_one, hy]; exact leastOf_snoc _ _ _)
        clear hy
        have q : ((j : Int) + 1).toNat = j + 1 := by omega
        go_wp2_with fail
        all_goals
          go_round
          case rel => exact ⟨j + 1, by omega, by go_num, by rw [hs.out]⟩
          case measure => simp [intOf]; omega
      · have hj' : j = xs.length := by omega
        subst hj'
        rw [List.take_length]
        go_wp2_with fail
        go_ret
        exact ⟨rfl, rfl⟩
end Go.Proofs.YtiohpmcedfbcgabGreatDoor
