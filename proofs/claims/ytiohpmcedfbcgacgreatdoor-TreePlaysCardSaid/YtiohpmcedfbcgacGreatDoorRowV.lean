/- A slice of one-cell values in a block of its own: shape, cells, append. No program in sight. Conditions: each theorem's own premises. -/
import Derived.Test.YtiohpmcedfbcgacGreatDoorGrow
import Derived.BigRegion
import Derived.MapKept
namespace Go.Proofs.YtiohpmcedfbcgacGreatDoor
open Go.RowKit
set_option linter.unusedVariables false

/-- v is a slice of the values xs (of type e), in a block of its own. -/
def RowV (w : World) (e : TypeId) (v : Value) (xs : List Value) : Prop := w.ownsRow 0 e 1 v xs.length xs
theorem RowV.shape {w : World} {e : TypeId} {v : Value} {xs : List Value} (h : RowV w e v xs) : (v = .slice none 0 0 ∧ xs = []) ∨ ∃ g cap, v = .slice (some ⟨g, 0, none⟩) xs.length cap ∧ xs.length ≤ cap ∧ cap ≤ maxLen ∧ g < w.heap.size := by
  obtain ⟨_, h0 | ⟨g, cap, cur, rfl, _, hg, h1, h2, _⟩⟩ := h
  · exact .inl ⟨h0.1, List.length_eq_zero_iff.1 h0.2⟩
  · exact .inr ⟨g, cap, rfl, h1, h2, (Array.getElem?_eq_some_iff.1 hg).1⟩
theorem RowV.slice {w : World} {e : TypeId} {v : Value} {xs : List Value} (h : RowV w e v xs) : ∃ a cap, v = .slice a xs.length cap := by
  rcases h.shape with ⟨rfl, rfl⟩ | ⟨g, cap, rfl, _⟩
  · exact ⟨none, 0, rfl⟩
  · exact ⟨_, _, rfl⟩
theorem RowV.cell {w : World} {e : TypeId} {g cap : Nat} {xs : List Value} (h : RowV w e (.slice (some ⟨g, 0, none⟩) xs.length cap) xs) (j : Nat) (x : Value) (hj : xs[j]? = some x) : w.cell? ⟨g, j, none⟩ = some x := by
  have hl := (List.getElem?_eq_some_iff.1 hj).1
  rw [World.ownsRow.cellAt h j (by omega), hj]
theorem RowV.frozen {w : World} {e : TypeId} {g cap : Nat} {xs : List Value} (h : RowV w e (.slice (some ⟨g, 0, none⟩) xs.length cap) xs) (j : Nat) : w.frozen? ⟨g, j, none⟩ = false := World.ownsRow.frozenAt h j
theorem RowV.turned {S : Nat → Prop} {w w' : World} {e : TypeId} {v : Value} {xs : List Value} (h : RowV w e v xs) (t : Turn S w w') (hn : ∀ g, v.ownBlock = some g → ¬ S g) : RowV w' e v xs := by
  refine ⟨h.1, ?_⟩
  rcases h.2 with h0 | ⟨g, cap, cur, rfl, hb, hg, r⟩
  · exact .inl h0
  · exact .inr ⟨g, cap, cur, rfl, hb, (t.block g (Array.getElem?_eq_some_iff.1 hg).1 (hn g rfl)).trans hg, r⟩
theorem RowV.own_lt {w : World} {e : TypeId} {v : Value} {xs : List Value} (h : RowV w e v xs) (g : Nat) (hg : v.ownBlock = some g) : g < w.heap.size := by
  rcases h.shape with ⟨rfl, _⟩ | ⟨g', cap, rfl, _, _, hl⟩
  · cases hg
  · cases hg; exact hl
/-- One value, made new. -/
theorem RowV.one (w : World) (e : TypeId) (x : Value) : RowV (w.alloc (.cells #[x] e)) e (.slice (some ⟨w.heap.size, 0, none⟩) 1 1) [x] := by
  refine ⟨by simp, .inr ⟨w.heap.size, 1, #[x], rfl, Nat.zero_le _, (MapKept.heap_alloc w _).1, by simp, by unfold maxLen; omega, by simp, by simp⟩⟩
theorem wpList_append_val {P : Program} {ops : Array Oper} {rest : List Oper} {o : Oper} {a : Act} {w : World} {Q : Exit → Act → World → Prop} {e t : TypeId} {z : Value} {bytes : Nat}
    (hg : o.guard = none) (s x : Operand) (hop : o.op = Op.call { callee := Callee.builtin Builtin.append, args := #[s, x], argTypes := #[t, t] }) (hT : P.underlying t = some (.slice e)) (hI : (P.info? e).map (fun i => (i.zero, i.size, i.bytes)) = some (some z, 1, bytes)) (hz : z.cells.size = 1) (hb : bytes ≤ 16)
    (v : Value) (xs : List Value) (hs : a.eval s = v) (hi : RowV w e v xs) (b0 c : Nat) (y : Value) (hx : a.eval x = .slice (some ⟨b0, 0, none⟩) 1 c) (hc : w.cell? ⟨b0, 0, none⟩ = some y) (h1 : y.oneCell' = true) (hl : xs.length ≤ 1000000)
    (hK : ∀ g cap w', RowV w' e (.slice (some ⟨g, 0, none⟩) (xs.length + 1) cap) (xs ++ [y]) → Turn (fun j => v.ownBlock = some j) w w' → (v.ownBlock = some g ∨ w.heap.size ≤ g) → wpList P ops Q rest (a.put o.dst (.slice (some ⟨g, 0, none⟩) (xs.length + 1) cap)) w') :
    wpList P ops Q (o :: rest) a w := by
  obtain ⟨i0, hi0, hz0, hz1, hz2⟩ := info_split hI
  refine wpList_append_at hg s x t hop e i0 z 1 bytes hT hi0 hz0 hz1 hz2 hz (by decide) v xs.length _ hs hi ⟨b0, 0, none⟩ 1 c [y] hx rfl ?_ ?_ (.inl (by decide)) (by unfold maxLen; omega) (by
    have h2 : (xs.length + 1) * bytes ≤ 1000001 * 16 := Nat.mul_le_mul (by omega) hb
    omega) ?_
  · intro j u hj
    rw [Addr.add_mid]
    cases j with
    | zero => simp at hj; subst hj; exact hc
    | succ j => simp at hj
  · intro u hu; simp at hu; subst hu; exact h1
  · intro g cap w' r1 r2 r3
    refine hK g cap w' ?_ r2 r3
    unfold RowV
    rw [List.length_append, List.length_singleton]
    exact r1
theorem step_append_val {P : Program} {ops : Array Oper} {o : Oper} {a : Act} {w : World} {K : Act → World → Prop} {Q : Exit → Act → World → Prop} {E : Prop} {e t : TypeId} {z : Value} {bytes : Nat}
    (hg : o.guard = none) (s x : Operand) (hop : o.op = Op.call { callee := Callee.builtin Builtin.append, args := #[s, x], argTypes := #[t, t] }) (hT : P.underlying t = some (.slice e)) (hI : (P.info? e).map (fun i => (i.zero, i.size, i.bytes)) = some (some z, 1, bytes)) (hz : z.cells.size = 1) (hb : bytes ≤ 16)
    (v : Value) (xs : List Value) (hs : a.eval s = v) (hi : RowV w e v xs) (b0 c : Nat) (y : Value) (hx : a.eval x = .slice (some ⟨b0, 0, none⟩) 1 c) (hc : w.cell? ⟨b0, 0, none⟩ = some y) (h1 : y.oneCell' = true) (hl : xs.length ≤ 1000000)
    (hK : ∀ g cap w', RowV w' e (.slice (some ⟨g, 0, none⟩) (xs.length + 1) cap) (xs ++ [y]) → Turn (fun j => v.ownBlock = some j) w w' → (v.ownBlock = some g ∨ w.heap.size ≤ g) → K (a.put o.dst (.slice (some ⟨g, 0, none⟩) (xs.length + 1) cap)) w') :
    if Region.wanted o (yielded ops a.tmps) = true then Oper.wp P o a w K Q else E := by
  obtain ⟨i0, hi0, hz0, hz1, hz2⟩ := info_split hI
  refine step_append_at hg s x t hop e i0 z 1 bytes hT hi0 hz0 hz1 hz2 hz (by decide) v xs.length _ hs hi ⟨b0, 0, none⟩ 1 c [y] hx rfl ?_ ?_ (.inl (by decide)) (by unfold maxLen; omega) (by
    have h2 : (xs.length + 1) * bytes ≤ 1000001 * 16 := Nat.mul_le_mul (by omega) hb
    omega) ?_
  · intro j u hj
    rw [Addr.add_mid]
    cases j with
    | zero => simp at hj; subst hj; exact hc
    | succ j => simp at hj
  · intro u hu; simp at hu; subst hu; exact h1
  · intro g cap w' r1 r2 r3
    refine hK g cap w' ?_ r2 r3
    unfold RowV
    rw [List.length_append, List.length_singleton]
    exact r1
end Go.Proofs.YtiohpmcedfbcgacGreatDoor
