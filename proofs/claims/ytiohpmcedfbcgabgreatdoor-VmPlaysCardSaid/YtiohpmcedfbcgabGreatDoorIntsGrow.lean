/- An append of one int to a slice of ints in a block of its own. Conditions: each theorem's own premises. -/
import Derived.Test.YtiohpmcedfbcgabGreatDoorIntsDel
import Derived.Test.YtiohpmcedfbcgabGreatDoorGrow
namespace Go.Proofs.YtiohpmcedfbcgabGreatDoor
open Go.RowKit
set_option linter.unusedVariables false

theorem info_int : (Tryz.prog.info? 3).map (fun i => (i.zero, i.size, i.bytes)) = some (some (.int .i64 0), 1, 8) := by kernel_rfl

theorem IntsAt.of_row {w : World} {g cap n : Nat} {xs : List Int} {y : Int} (h : w.ownsRow 0 3 1 (.slice (some ⟨g, 0, none⟩) n cap) n (xs.map (Value.int .i64) ++ [.int .i64 y])) (hn : n = xs.length + 1) : IntsAt w (.slice (some ⟨g, 0, none⟩) (xs.length + 1) cap) (xs ++ [y]) := by
  subst hn
  unfold IntsAt
  rw [List.length_append, List.length_singleton, List.map_append]
  exact h

theorem step_append_int {ops : Array Oper} {o : Oper} {a : Act} {w : World} {K : Act → World → Prop} {Q : Exit → Act → World → Prop} {E : Prop}
    (hg : o.guard = none) (s x : Operand) (hop : o.op = Op.call { callee := Callee.builtin Builtin.append, args := #[s, x], argTypes := #[155, 155] })
    (v : Value) (xs : List Int) (hs : a.eval s = v) (hi : IntsAt w v xs) (b0 c : Nat) (y : Int) (hx : a.eval x = .slice (some ⟨b0, 0, none⟩) 1 c) (hc : w.cell? ⟨b0, 0, none⟩ = some (.int .i64 y)) (hl : xs.length ≤ 1000000)
    (hK : ∀ g cap w', IntsAt w' (.slice (some ⟨g, 0, none⟩) (xs.length + 1) cap) (xs ++ [y]) → Turn (fun j => v.ownBlock = some j) w w' → (v.ownBlock = some g ∨ w.heap.size ≤ g) → K (a.put o.dst (.slice (some ⟨g, 0, none⟩) (xs.length + 1) cap)) w') :
    if Region.wanted o (yielded ops a.tmps) = true then Oper.wp Tryz.prog o a w K Q else E := by
  obtain ⟨i0, hi0, hz0, hz1, hz2⟩ := info_split info_int
  refine step_append_at hg s x 155 hop 3 i0 (.int .i64 0) 1 8 Tryz.underlying155 hi0 hz0 hz1 hz2 rfl (by decide) v xs.length _ hs hi ⟨b0, 0, none⟩ 1 c [.int .i64 y] hx rfl ?_ ?_ (.inl (by decide)) (by unfold maxLen; omega) (by omega) ?_
  · intro j u hj
    rw [Addr.add_mid]
    cases j with
    | zero => simp at hj; subst hj; exact hc
    | succ j => simp at hj
  · intro u hu; simp at hu; subst hu; rfl
  · intro g cap w' h1 h2 h3
    exact hK g cap w' (IntsAt.of_row h1 rfl) h2 h3

theorem wpList_append_int {ops : Array Oper} {rest : List Oper} {o : Oper} {a : Act} {w : World} {Q : Exit → Act → World → Prop}
    (hg : o.guard = none) (s x : Operand) (hop : o.op = Op.call { callee := Callee.builtin Builtin.append, args := #[s, x], argTypes := #[155, 155] })
    (v : Value) (xs : List Int) (hs : a.eval s = v) (hi : IntsAt w v xs) (b0 c : Nat) (y : Int) (hx : a.eval x = .slice (some ⟨b0, 0, none⟩) 1 c) (hc : w.cell? ⟨b0, 0, none⟩ = some (.int .i64 y)) (hl : xs.length ≤ 1000000)
    (hK : ∀ g cap w', IntsAt w' (.slice (some ⟨g, 0, none⟩) (xs.length + 1) cap) (xs ++ [y]) → Turn (fun j => v.ownBlock = some j) w w' → (v.ownBlock = some g ∨ w.heap.size ≤ g) → wpList Tryz.prog ops Q rest (a.put o.dst (.slice (some ⟨g, 0, none⟩) (xs.length + 1) cap)) w') :
    wpList Tryz.prog ops Q (o :: rest) a w := by
  obtain ⟨i0, hi0, hz0, hz1, hz2⟩ := info_split info_int
  refine wpList_append_at hg s x 155 hop 3 i0 (.int .i64 0) 1 8 Tryz.underlying155 hi0 hz0 hz1 hz2 rfl (by decide) v xs.length _ hs hi ⟨b0, 0, none⟩ 1 c [.int .i64 y] hx rfl ?_ ?_ (.inl (by decide)) (by unfold maxLen; omega) (by omega) ?_
  · intro j u hj
    rw [Addr.add_mid]
    cases j with
    | zero => simp at hj; subst hj; exact hc
    | succ j => simp at hj
  · intro u hu; simp at hu; subst hu; rfl
  · intro g cap w' h1 h2 h3
    exact hK g cap w' (IntsAt.of_row h1 rfl) h2 h3
end Go.Proofs.YtiohpmcedfbcgabGreatDoor
