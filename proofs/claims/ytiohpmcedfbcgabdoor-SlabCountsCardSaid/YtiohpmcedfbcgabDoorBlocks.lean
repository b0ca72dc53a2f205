/- Slices of blocks (api.Block) in a block of memory of their own: cells, an append of one and of many. Conditions: each theorem's own premises. -/
import Derived.Test.YtiohpmcedfbcgabDoorIntsGrow
import Derived.Test.YtiohpmcedfbcgabDoorBase
namespace Go.Proofs.YtiohpmcedfbcgabDoor
open Go.RowKit
set_option linter.unusedVariables false

def bkCells (l : List Bk) : List Value := l.flatMap fun t => [.int .i64 t.1, .int .i64 (t.2 : Int)]
theorem bkCells_len (l : List Bk) : (bkCells l).length = l.length * 2 := by
  induction l with
  | nil => rfl
  | cons a l ih => simp only [bkCells, List.flatMap_cons, List.length_append, List.length_cons, List.length_nil] at ih ⊢; omega
theorem bkCells_append (l m : List Bk) : bkCells (l ++ m) = bkCells l ++ bkCells m := by simp [bkCells]
theorem bkCells_one (l : List Bk) : ∀ u ∈ bkCells l, u.oneCell' = true := by
  intro u hu
  unfold bkCells at hu
  simp only [List.mem_flatMap, List.mem_cons, List.not_mem_nil, or_false] at hu
  obtain ⟨c, _, rfl | rfl⟩ := hu <;> rfl
theorem bkCells_at (l : List Bk) (j : Nat) (t : Bk) (h : l[j]? = some t) : (bkCells l)[j * 2]? = some (.int .i64 t.1) ∧ (bkCells l)[j * 2 + 1]? = some (.int .i64 (t.2 : Int)) := by
  induction l generalizing j with
  | nil => simp at h
  | cons a l ih =>
    cases j with
    | zero => simp at h; subst h; exact ⟨rfl, rfl⟩
    | succ j =>
      simp at h
      obtain ⟨h1, h2⟩ := ih j h
      have e : bkCells (a :: l) = [.int .i64 a.1, .int .i64 (a.2 : Int)] ++ bkCells l := rfl
      rw [e, List.getElem?_append_right (by simp; omega), List.getElem?_append_right (by simp; omega)]
      simp only [List.length_cons, List.length_nil]
      rw [show (j + 1) * 2 - 2 = j * 2 by omega, show (j + 1) * 2 + 1 - 2 = j * 2 + 1 by omega]
      exact ⟨h1, h2⟩

/-- The blocks lie, one behind the other, in block b from off on. -/
def BksAt (w : World) (b off : Nat) (l : List Bk) : Prop := ∀ j t, l[j]? = some t → w.cell? ⟨b, off + j * 2, none⟩ = some (.int .i64 t.1) ∧ w.cell? ⟨b, off + j * 2 + 1, none⟩ = some (.int .i64 (t.2 : Int))
theorem BksAt.turned {S : Nat → Prop} {w w' : World} {b off : Nat} {l : List Bk} (h : BksAt w b off l) (t : Turn S w w') (hb : b < w.heap.size) (hn : ¬ S b) : BksAt w' b off l := fun j x hx =>
  ⟨(t.cell (a := ⟨b, _, none⟩) hb hn).trans (h j x hx).1, (t.cell (a := ⟨b, _, none⟩) hb hn).trans (h j x hx).2⟩
theorem BksAt.drop {w : World} {b off : Nat} {l : List Bk} (h : BksAt w b off l) (n : Nat) : BksAt w b (off + n * 2) (l.drop n) := fun i c hc => by
  rw [List.getElem?_drop] at hc
  have := h (n + i) c hc
  rw [show off + (n + i) * 2 = off + n * 2 + i * 2 by omega] at this
  exact this
theorem BksAt.take {w : World} {b off : Nat} {l : List Bk} (h : BksAt w b off l) (n : Nat) : BksAt w b off (l.take n) := fun i c hc => by
  rw [List.getElem?_take] at hc
  split at hc
  · exact h i c hc
  · cases hc
theorem BksAt.cell {w : World} {b off : Nat} {l : List Bk} (h : BksAt w b off l) (j : Nat) (u : Value) (hu : (bkCells l)[j]? = some u) : w.cell? ((⟨b, off, none⟩ : Addr).add j) = some u := by
  rw [Addr.add_mid]
  have hj : j < l.length * 2 := by have := (List.getElem?_eq_some_iff.1 hu).1; rwa [bkCells_len] at this
  have hi : j / 2 < l.length := by omega
  have hc : l[j / 2]? = some l[j / 2] := List.getElem?_eq_getElem hi
  obtain ⟨a0, a1⟩ := bkCells_at l _ _ hc
  obtain ⟨c0, c1⟩ := h _ _ hc
  have hm : j % 2 = 0 ∨ j % 2 = 1 := by omega
  rcases hm with hm | hm
  · have e : j = j / 2 * 2 := by omega
    rw [← e] at a0 c0
    rw [c0, ← a0, hu]
  · have e : j = j / 2 * 2 + 1 := by omega
    rw [← e] at a1
    rw [show off + j = off + j / 2 * 2 + 1 by omega, c1, ← a1, hu]

/-- v is a slice of the blocks l, in a block of memory of its own. -/
def BlksAt (w : World) (v : Value) (l : List Bk) : Prop := w.ownsRow 0 36 2 v l.length (bkCells l)
theorem BlksAt.shape {w : World} {v : Value} {l : List Bk} (h : BlksAt w v l) : (v = .slice none 0 0 ∧ l = []) ∨ ∃ g cap, v = .slice (some ⟨g, 0, none⟩) l.length cap ∧ l.length ≤ cap ∧ cap ≤ maxLen ∧ g < w.heap.size ∧ BksAt w g 0 l := by
  have h' := h
  obtain ⟨_, h0 | ⟨g, cap, cur, rfl, _, hg, h1, h2, _⟩⟩ := h
  · exact .inl ⟨h0.1, List.length_eq_zero_iff.1 h0.2⟩
  · refine .inr ⟨g, cap, rfl, h1, h2, (Array.getElem?_eq_some_iff.1 hg).1, fun j t ht => ?_⟩
    obtain ⟨a0, a1⟩ := bkCells_at l j t ht
    have hj := (List.getElem?_eq_some_iff.1 ht).1
    rw [World.ownsRow.cellAt h' (0 + j * 2) (by omega), World.ownsRow.cellAt h' (0 + j * 2 + 1) (by omega), Nat.zero_add]
    exact ⟨a0, a1⟩
theorem BlksAt.slice {w : World} {v : Value} {l : List Bk} (h : BlksAt w v l) : ∃ a cap, v = .slice a l.length cap := by
  rcases h.shape with ⟨rfl, rfl⟩ | ⟨g, cap, rfl, _⟩
  · exact ⟨none, 0, rfl⟩
  · exact ⟨_, cap, rfl⟩
theorem BlksAt.turned {S : Nat → Prop} {w w' : World} {v : Value} {l : List Bk} (h : BlksAt w v l) (t : Turn S w w') (hn : ∀ g, v.ownBlock = some g → ¬ S g) : BlksAt w' v l := by
  refine ⟨h.1, ?_⟩
  rcases h.2 with h0 | ⟨g, cap, cur, rfl, hb, hg, r⟩
  · exact .inl h0
  · exact .inr ⟨g, cap, cur, rfl, hb, (t.block g (Array.getElem?_eq_some_iff.1 hg).1 (hn g rfl)).trans hg, r⟩
theorem BlksAt.empty (w : World) : BlksAt w (.slice none 0 0) [] := World.ownsRow_nil _ _ _ _

theorem info_bk : (Tryd.prog.info? 36).map (fun i => (i.zero, i.size, i.bytes)) = some (some (.agg #[.int .i64 0, .int .i64 0]), 2, 16) := by kernel_rfl

theorem BlksAt.of_row {w : World} {g cap n : Nat} {l m : List Bk} (h : w.ownsRow 0 36 2 (.slice (some ⟨g, 0, none⟩) n cap) n (bkCells l ++ bkCells m)) (hn : n = l.length + m.length) : BlksAt w (.slice (some ⟨g, 0, none⟩) (l.length + m.length) cap) (l ++ m) := by
  subst hn
  unfold BlksAt
  rw [List.length_append, bkCells_append]
  exact h

/-- An append of blocks that lie somewhere (the lengths as they are spelt). -/
theorem step_append_bks {ops : Array Oper} {o : Oper} {a : Act} {w : World} {K : Act → World → Prop} {Q : Exit → Act → World → Prop} {E : Prop}
    (hg : o.guard = none) (s x : Operand) (hop : o.op = Op.call { callee := Callee.builtin Builtin.append, args := #[s, x], argTypes := #[30, 30] })
    (v : Value) (l : List Bk) (hs : a.eval s = v) (hi : BlksAt w v l) (b off c : Nat) (m : List Bk) (n2 : Nat) (hn2 : m.length = n2) (hx : a.eval x = .slice (some ⟨b, off, none⟩) n2 c) (hc : BksAt w b off m) (hm : 0 < m.length ∨ v ≠ .slice none 0 0) (hl : l.length + m.length ≤ 1000000) (n3 : Nat) (hn3 : l.length + m.length = n3)
    (hK : ∀ g cap w', BlksAt w' (.slice (some ⟨g, 0, none⟩) n3 cap) (l ++ m) → Turn (fun j => v.ownBlock = some j) w w' → (v.ownBlock = some g ∨ w.heap.size ≤ g) → K (a.put o.dst (.slice (some ⟨g, 0, none⟩) n3 cap)) w') :
    if Region.wanted o (yielded ops a.tmps) = true then Oper.wp Tryd.prog o a w K Q else E := by
  subst hn2
  subst hn3
  obtain ⟨i0, hi0, hz0, hz1, hz2⟩ := info_split info_bk
  refine step_append_at hg s x 30 hop 36 i0 (.agg #[.int .i64 0, .int .i64 0]) 2 16 Tryd.underlying30 hi0 hz0 hz1 hz2 rfl (by decide) v l.length _ hs hi ⟨b, off, none⟩ m.length c (bkCells m) hx (bkCells_len m) hc.cell (bkCells_one m) hm (by unfold maxLen; omega) (by omega) ?_
  intro g cap w' h1 h2 h3
  exact hK g cap w' (BlksAt.of_row h1 rfl) h2 h3
theorem wpList_append_bks {ops : Array Oper} {rest : List Oper} {o : Oper} {a : Act} {w : World} {Q : Exit → Act → World → Prop}
    (hg : o.guard = none) (s x : Operand) (hop : o.op = Op.call { callee := Callee.builtin Builtin.append, args := #[s, x], argTypes := #[30, 30] })
    (v : Value) (l : List Bk) (hs : a.eval s = v) (hi : BlksAt w v l) (b off c : Nat) (m : List Bk) (n2 : Nat) (hn2 : m.length = n2) (hx : a.eval x = .slice (some ⟨b, off, none⟩) n2 c) (hc : BksAt w b off m) (hm : 0 < m.length ∨ v ≠ .slice none 0 0) (hl : l.length + m.length ≤ 1000000) (n3 : Nat) (hn3 : l.length + m.length = n3)
    (hK : ∀ g cap w', BlksAt w' (.slice (some ⟨g, 0, none⟩) n3 cap) (l ++ m) → Turn (fun j => v.ownBlock = some j) w w' → (v.ownBlock = some g ∨ w.heap.size ≤ g) → wpList Tryd.prog ops Q rest (a.put o.dst (.slice (some ⟨g, 0, none⟩) n3 cap)) w') :
    wpList Tryd.prog ops Q (o :: rest) a w := by
  subst hn2
  subst hn3
  obtain ⟨i0, hi0, hz0, hz1, hz2⟩ := info_split info_bk
  refine wpList_append_at hg s x 30 hop 36 i0 (.agg #[.int .i64 0, .int .i64 0]) 2 16 Tryd.underlying30 hi0 hz0 hz1 hz2 rfl (by decide) v l.length _ hs hi ⟨b, off, none⟩ m.length c (bkCells m) hx (bkCells_len m) hc.cell (bkCells_one m) hm (by unfold maxLen; omega) (by omega) ?_
  intro g cap w' h1 h2 h3
  exact hK g cap w' (BlksAt.of_row h1 rfl) h2 h3
end Go.Proofs.YtiohpmcedfbcgabDoor
