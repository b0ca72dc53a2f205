/- A tree of a law's own beside a slice of the law's own: each call of package tree that the law makes. Conditions: each theorem's own premises. -/
import Derived.Test.YtiohpmcedfbcgacGreatDoorTreeLaw
import Derived.Test.YtiohpmcedfbcgacGreatDoorRowV
namespace Go.Proofs.YtiohpmcedfbcgacGreatDoor
open Go.RowKit
set_option linter.unusedVariables false

/-- A tree in block tb, and a slice of strings, both made since W, and apart. -/
structure TreeRow (W w : World) (tb : Nat) (T : PT) (v : Value) (xs : List Value) : Prop where
  tree : ∃ F, TreeIs w tb T F ∧ (∀ k, F k → W.heap.size ≤ k) ∧ ∀ g, v.ownBlock = some g → ¬ F g ∧ W.heap.size ≤ g
  row : RowV w 9 v xs
  turn : Turn (fun _ => False) W w
section
variable {W w w' w1 w2 : World} {tb g cap : Nat} {T T' : PT} {n : Int} {F : Nat → Prop} {v v' : Value} {xs ys : List Value}
theorem TreeLaw.row (h : TreeLaw W w tb T) : TreeRow W w tb T (.slice none 0 0) [] := by
  obtain ⟨F, h1, h2⟩ := h.tree
  exact ⟨⟨F, h1, h2, fun g hg => by cases hg⟩, World.ownsRow_nil _ _ _ _, h.turn⟩
theorem TreeRow.law (h : TreeRow W w tb T v xs) : TreeLaw W w tb T := by
  obtain ⟨F, h1, h2, _⟩ := h.tree
  exact ⟨⟨F, h1, h2⟩, h.turn⟩
theorem TreeRow.still (h : TreeRow W w tb T v xs) (t : Turn (fun _ => False) w w') : TreeRow W w' tb T v xs := by
  obtain ⟨F, h1, h2, h3⟩ := h.tree
  exact ⟨⟨F, h1.turned t (fun _ _ => id), h2, h3⟩, h.row.turned t (fun _ _ => id), h.turn.trans t⟩
/-- The slice grew. -/
theorem TreeRow.app (h : TreeRow W w tb T v xs) (hr : RowV w' 9 (.slice (some ⟨g, 0, none⟩) ys.length cap) ys) (t : Turn (fun j => v.ownBlock = some j) w w') (hg : v.ownBlock = some g ∨ w.heap.size ≤ g) : TreeRow W w' tb T (.slice (some ⟨g, 0, none⟩) ys.length cap) ys := by
  obtain ⟨F, h1, h2, h3⟩ := h.tree
  refine ⟨⟨F, h1.turned t (fun k hk e => (h3 k e).1 hk), h2, fun g' hg' => ?_⟩, hr, h.turn.trans' t (fun k hk e => by have := (h3 k e).2; omega)⟩
  cases hg'
  rcases hg with hg | hg
  · exact h3 _ hg
  · exact ⟨fun hf => by have := h1.foot_lt _ hf; simp only at this; omega, Nat.le_trans h.turn.size hg⟩
/-- Another slice, made new, takes its place. -/
theorem TreeRow.fresh (h : TreeRow W w tb T v xs) (hr : RowV w' 9 (.slice (some ⟨g, 0, none⟩) ys.length cap) ys) (t : Turn (fun _ => False) w w') (hg : w.heap.size ≤ g) : TreeRow W w' tb T (.slice (some ⟨g, 0, none⟩) ys.length cap) ys := by
  obtain ⟨F, h1, h2, h3⟩ := h.tree
  refine ⟨⟨F, h1.turned t (fun _ _ => id), h2, fun g' hg' => ?_⟩, hr, h.turn.trans t⟩
  cases hg'
  exact ⟨fun hf => by have := h1.foot_lt _ hf; simp only at this; omega, Nat.le_trans h.turn.size hg⟩
theorem TreeRow.to {F : Nat → Prop} (hrow : RowV w 9 v xs) (ht : Turn (fun _ => False) W w) (h2 : ∀ k, F k → W.heap.size ≤ k) (h3 : ∀ g, v.ownBlock = some g → ¬ F g ∧ W.heap.size ≤ g) (hto : TreeTo tb F w w' T') : TreeRow W w' tb T' v xs := by
  obtain ⟨F', a, b, c⟩ := hto
  refine ⟨⟨F', a, fun k hk => ?_, fun g hg => ⟨fun hf => ?_, (h3 g hg).2⟩⟩, hrow.turned b (fun g hg hf => (h3 g hg).1 hf), ht.trans' b (fun k hk hf => by have := h2 k hf; omega)⟩
  · rcases c k hk with h4 | h4
    · exact h2 k h4
    · exact Nat.le_trans ht.size h4
  · rcases c g hf with h4 | h4
    · exact (h3 g hg).1 h4
    · have := hrow.own_lt g hg; omega
theorem row_link (h : TreeRow W w tb T v xs) (old path : ByteArray) (hs1 : old.size < 4294967281) (hs2 : path.size < 4294967281) (hb : ∀ n p, mget T n = some p → p.names < 1000000) :
    Calls Tryz.prog 37 #[.pointer (some ⟨tb, 0, none⟩), .string old, .string path] w fun e w' => e = .returned (TErr (linkE T old path)) ∧ TreeRow W w' tb (linkT T old path) v xs := by
  obtain ⟨F, h1, h2, h3⟩ := h.tree
  exact (link_is h1 old path hs1 hs2 hb).mono fun e w' x => ⟨x.1, TreeRow.to h.row h.turn h2 h3 x.2⟩
theorem row_unlink (h : TreeRow W w tb T v xs) (path : ByteArray) (hs : path.size < 4294967281) (hb : ∀ n p, mget T n = some p → p.names < 1000000 ∧ p.ds.length < 1000000) :
    Calls Tryz.prog 39 #[.pointer (some ⟨tb, 0, none⟩), .string path] w fun e w' => e = .returned (TErr (unlinkE T path)) ∧ TreeRow W w' tb (unlinkT T path) v xs := by
  obtain ⟨F, h1, h2, h3⟩ := h.tree
  exact (unlink_is h1 path hs hb).mono fun e w' x => ⟨x.1, TreeRow.to h.row h.turn h2 h3 x.2⟩
theorem row_find (h : TreeRow W w tb T v xs) (path : ByteArray) (hs : path.size < 4294967281) :
    Calls Tryz.prog 38 #[.pointer (some ⟨tb, 0, none⟩), .string path] w fun e w' => e = .returned (.tuple #[.int .i64 (findT T path).2, TErr (findT T path).1]) ∧ TreeRow W w' tb T v xs := by
  obtain ⟨F, h1, h2, h3⟩ := h.tree
  exact (find_is h1 path hs).mono fun e w' x => ⟨x.1, h.still x.2⟩
theorem row_read (h : TreeRow W w tb T v xs) (n at' many : Int) :
    Calls Tryz.prog 29 #[.pointer (some ⟨tb, 0, none⟩), .int .i64 n, .int .i64 at', .int .i64 many] w fun e w' => e = .returned (.tuple #[.string (readT T n at' many), TErr (readE T n at' many)]) ∧ TreeRow W w' tb T v xs := by
  obtain ⟨F, h1, h2, h3⟩ := h.tree
  exact (read_is h1 n at' many).mono fun e w' x => ⟨x.1, h.still x.2⟩
/-- Two appends, the first to a slice made new, are another slice. -/
theorem two_apps {w W w3 w4 : World} {g3 g4 n3 z3 : Nat} (ta : Turn (fun _ => False) w W) (t3 : Turn (fun j => (Value.slice (some ⟨w.heap.size, 0, none⟩) 0 0).ownBlock = some j) W w3) (h3 : (Value.slice (some ⟨w.heap.size, 0, none⟩) 0 0).ownBlock = some g3 ∨ W.heap.size ≤ g3)
    (t4 : Turn (fun j => (Value.slice (some ⟨g3, 0, none⟩) n3 z3).ownBlock = some j) w3 w4) (h4 : (Value.slice (some ⟨g3, 0, none⟩) n3 z3).ownBlock = some g4 ∨ w3.heap.size ≤ g4) : Turn (fun _ => False) w w4 ∧ w.heap.size ≤ g4 := by
  have s1 := ta.size
  have s3 := t3.size
  have hg3 : w.heap.size ≤ g3 := by
    rcases h3 with h | h
    · simp only [Value.ownBlock, Option.some.injEq] at h; omega
    · omega
  refine ⟨(ta.trans' t3 (fun k hk h => ?_)).trans' t4 (fun k hk h => ?_), ?_⟩
  · simp only [Value.ownBlock, Option.some.injEq] at h; omega
  · simp only [Value.ownBlock, Option.some.injEq] at h; omega
  · rcases h4 with h | h
    · simp only [Value.ownBlock, Option.some.injEq] at h; omega
    · omega
end
end Go.Proofs.YtiohpmcedfbcgacGreatDoor
