/- An append of another slice's one-cell values. No program in sight. Conditions: each theorem's own premises. -/
import Derived.Test.YtiohpmcedfbcgacGreatDoorRowV
namespace Go.Proofs.YtiohpmcedfbcgacGreatDoor
open Go.RowKit
set_option linter.unusedVariables false

theorem step_append_vals {P : Program} {ops : Array Oper} {o : Oper} {a : Act} {w : World} {K : Act → World → Prop} {Q : Exit → Act → World → Prop} {E : Prop} {e t : TypeId} {z : Value} {bytes : Nat}
    (hg : o.guard = none) (s x : Operand) (hop : o.op = Op.call { callee := Callee.builtin Builtin.append, args := #[s, x], argTypes := #[t, t] }) (hT : P.underlying t = some (.slice e)) (hI : (P.info? e).map (fun i => (i.zero, i.size, i.bytes)) = some (some z, 1, bytes)) (hz : z.cells.size = 1) (hb : bytes ≤ 16)
    (v : Value) (xs : List Value) (hs : a.eval s = v) (hi : RowV w e v xs) (b0 off c : Nat) (news : List Value) (N : Nat) (hN : news.length = N) (hx : a.eval x = .slice (some ⟨b0, off, none⟩) N c)
    (hc : ∀ (j : Nat) u, news[j]? = some u → w.cell? ⟨b0, off + j, none⟩ = some u) (h1 : ∀ u ∈ news, u.oneCell' = true) (hm : 0 < news.length ∨ v ≠ .slice none 0 0) (hl : xs.length + news.length ≤ 1000000) (M : Nat) (hM : xs.length + news.length = M)
    (hK : ∀ g cap w', RowV w' e (.slice (some ⟨g, 0, none⟩) M cap) (xs ++ news) → Turn (fun j => v.ownBlock = some j) w w' → (v.ownBlock = some g ∨ w.heap.size ≤ g) → K (a.put o.dst (.slice (some ⟨g, 0, none⟩) M cap)) w') :
    if Region.wanted o (yielded ops a.tmps) = true then Oper.wp P o a w K Q else E := by
  obtain ⟨i0, hi0, hz0, hz1, hz2⟩ := info_split hI
  subst hN hM
  refine step_append_at hg s x t hop e i0 z 1 bytes hT hi0 hz0 hz1 hz2 hz (by decide) v xs.length _ hs hi ⟨b0, off, none⟩ news.length c news hx (by omega) ?_ h1 hm (by unfold maxLen; omega) (by
    have h2 : (xs.length + news.length) * bytes ≤ 1000000 * 16 := Nat.mul_le_mul hl hb
    omega) ?_
  · intro j u hj
    rw [Addr.add_mid]
    exact hc j u hj
  · intro g cap w' r1 r2 r3
    refine hK g cap w' ?_ r2 r3
    unfold RowV
    rw [List.length_append]
    exact r1
theorem wpList_append_vals {P : Program} {ops : Array Oper} {rest : List Oper} {o : Oper} {a : Act} {w : World} {Q : Exit → Act → World → Prop} {e t : TypeId} {z : Value} {bytes : Nat}
    (hg : o.guard = none) (s x : Operand) (hop : o.op = Op.call { callee := Callee.builtin Builtin.append, args := #[s, x], argTypes := #[t, t] }) (hT : P.underlying t = some (.slice e)) (hI : (P.info? e).map (fun i => (i.zero, i.size, i.bytes)) = some (some z, 1, bytes)) (hz : z.cells.size = 1) (hb : bytes ≤ 16)
    (v : Value) (xs : List Value) (hs : a.eval s = v) (hi : RowV w e v xs) (b0 off c : Nat) (news : List Value) (N : Nat) (hN : news.length = N) (hx : a.eval x = .slice (some ⟨b0, off, none⟩) N c)
    (hc : ∀ (j : Nat) u, news[j]? = some u → w.cell? ⟨b0, off + j, none⟩ = some u) (h1 : ∀ u ∈ news, u.oneCell' = true) (hm : 0 < news.length ∨ v ≠ .slice none 0 0) (hl : xs.length + news.length ≤ 1000000) (M : Nat) (hM : xs.length + news.length = M)
    (hK : ∀ g cap w', RowV w' e (.slice (some ⟨g, 0, none⟩) M cap) (xs ++ news) → Turn (fun j => v.ownBlock = some j) w w' → (v.ownBlock = some g ∨ w.heap.size ≤ g) → wpList P ops Q rest (a.put o.dst (.slice (some ⟨g, 0, none⟩) M cap)) w') :
    wpList P ops Q (o :: rest) a w := by
  obtain ⟨i0, hi0, hz0, hz1, hz2⟩ := info_split hI
  subst hN hM
  refine wpList_append_at hg s x t hop e i0 z 1 bytes hT hi0 hz0 hz1 hz2 hz (by decide) v xs.length _ hs hi ⟨b0, off, none⟩ news.length c news hx (by omega) ?_ h1 hm (by unfold maxLen; omega) (by
    have h2 : (xs.length + news.length) * bytes ≤ 1000000 * 16 := Nat.mul_le_mul hl hb
    omega) ?_
  · intro j u hj
    rw [Addr.add_mid]
    exact hc j u hj
  · intro g cap w' r1 r2 r3
    refine hK g cap w' ?_ r2 r3
    unfold RowV
    rw [List.length_append]
    exact r1
end Go.Proofs.YtiohpmcedfbcgacGreatDoor
