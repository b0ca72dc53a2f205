/- Several texts of ours in one, in build order (TreeLaw, TreeTexts). Conditions: each theorem's own premises. -/
import Derived.Test.YtiohpmcedfbcgacGreatDoorTreeNew
import Derived.Test.YtiohpmcedfbcgacGreatDoorTreeHold
import Derived.Test.YtiohpmcedfbcgacGreatDoorTreeBytes
import Derived.Test.YtiohpmcedfbcgacGreatDoorTreeList
import Derived.Deep.QuietTactic
import Derived.BigQuiet
/- A tree of a law's own: each call of package tree, told over the plain tree alone. Conditions: each theorem's own premises. -/
namespace Go.Proofs.YtiohpmcedfbcgacGreatDoor
open Go.RowKit
set_option linter.unusedVariables false

/-- A tree in block tb that was made since W. -/
structure TreeLaw (W w : World) (tb : Nat) (T : PT) : Prop where
  tree : ∃ F, TreeIs w tb T F ∧ ∀ k, F k → W.heap.size ≤ k
  turn : Turn (fun _ => False) W w
section
variable {W w w' w1 w2 : World} {tb : Nat} {T T' : PT} {n : Int} {F : Nat → Prop}
theorem TreeLaw.ok (h : TreeLaw W w tb T) : TOk T := by obtain ⟨F, h1, _⟩ := h.tree; exact h1.ok
theorem TreeLaw.still (h : TreeLaw W w tb T) (t : Turn (fun _ => False) w w') : TreeLaw W w' tb T := by
  obtain ⟨F, h1, h2⟩ := h.tree
  exact ⟨⟨F, h1.turned t (fun _ _ => id), h2⟩, h.turn.trans t⟩
theorem TreeLaw.next (h1 : Turn (fun _ => False) W w) (h2 : ∀ k, F k → W.heap.size ≤ k) (ht : TreeTo tb F w w' T') : TreeLaw W w' tb T' := by
  obtain ⟨F', a, b, c⟩ := ht
  refine ⟨⟨F', a, fun k hk => ?_⟩, h1.trans' b (fun k hk hf => by have := h2 k hf; omega)⟩
  rcases c k hk with h3 | h3
  · exact h2 k h3
  · exact Nat.le_trans h1.size h3
theorem law_new (w : World) : Calls Tryz.prog 25 #[] w fun e w' => ∃ tb, e = .returned (.pointer (some ⟨tb, 0, none⟩)) ∧ TreeLaw w w' tb rootT := by
  refine (treeNew_is w).mono ?_
  rintro e w' ⟨tb, F, rfl, h, t, hf⟩
  exact ⟨tb, rfl, ⟨⟨F, h, hf⟩, t⟩⟩
theorem law_create (h : TreeLaw W w tb T) (path : ByteArray) (hs : path.size < 4294967281) :
    Calls Tryz.prog 26 #[.pointer (some ⟨tb, 0, none⟩), .string path] w fun e w' => e = .returned (.tuple #[.int .i64 (makeK T path), TErr (makeE T path)]) ∧ TreeLaw W w' tb (makeT T path false) := by
  obtain ⟨F, h1, h2⟩ := h.tree
  exact (create_is h1 path hs).mono fun e w' x => ⟨x.1, TreeLaw.next h.turn h2 x.2⟩
theorem law_mkdir (h : TreeLaw W w tb T) (path : ByteArray) (hs : path.size < 4294967281) :
    Calls Tryz.prog 93 #[.pointer (some ⟨tb, 0, none⟩), .string path] w fun e w' => e = .returned (.tuple #[.int .i64 (makeK T path), TErr (makeE T path)]) ∧ TreeLaw W w' tb (makeT T path true) := by
  obtain ⟨F, h1, h2⟩ := h.tree
  exact (mkdir_is h1 path hs).mono fun e w' x => ⟨x.1, TreeLaw.next h.turn h2 x.2⟩
theorem law_hold (h : TreeLaw W w tb T) (n : Int) (hb : ∀ p, mget T n = some p → p.held < 1000000) :
    Calls Tryz.prog 106 #[.pointer (some ⟨tb, 0, none⟩), .int .i64 n] w fun e w' => e = .returned (TErr (fileE T n)) ∧ TreeLaw W w' tb (holdT T n) := by
  obtain ⟨F, h1, h2⟩ := h.tree
  exact (hold_is h1 n hb).mono fun e w' x => ⟨x.1, TreeLaw.next h.turn h2 x.2⟩
theorem law_drop (h : TreeLaw W w tb T) (n : Int) (hb : ∀ p, mget T n = some p → p.held < 1000000) :
    Calls Tryz.prog 108 #[.pointer (some ⟨tb, 0, none⟩), .int .i64 n] w fun e w' => e = .returned (TErr (dropE T n)) ∧ TreeLaw W w' tb (dropT T n) := by
  obtain ⟨F, h1, h2⟩ := h.tree
  exact (drop_is h1 n hb).mono fun e w' x => ⟨x.1, TreeLaw.next h.turn h2 x.2⟩
theorem law_write (h : TreeLaw W w tb T) (n at' : Int) (s : ByteArray) (hs : s.size ≤ 4294967281) :
    Calls Tryz.prog 28 #[.pointer (some ⟨tb, 0, none⟩), .int .i64 n, .int .i64 at', .string s] w fun e w' => e = .returned (TErr (writeE T n at' s)) ∧ TreeLaw W w' tb (writeT T n at' s) := by
  obtain ⟨F, h1, h2⟩ := h.tree
  exact (write_is h1 n at' s hs).mono fun e w' x => ⟨x.1, TreeLaw.next h.turn h2 x.2⟩
theorem law_read (h : TreeLaw W w tb T) (n at' many : Int) :
    Calls Tryz.prog 29 #[.pointer (some ⟨tb, 0, none⟩), .int .i64 n, .int .i64 at', .int .i64 many] w fun e w' => e = .returned (.tuple #[.string (readT T n at' many), TErr (readE T n at' many)]) ∧ TreeLaw W w' tb T := by
  obtain ⟨F, h1, h2⟩ := h.tree
  exact (read_is h1 n at' many).mono fun e w' x => ⟨x.1, h.still x.2⟩
theorem law_find (h : TreeLaw W w tb T) (path : ByteArray) (hs : path.size < 4294967281) :
    Calls Tryz.prog 38 #[.pointer (some ⟨tb, 0, none⟩), .string path] w fun e w' => e = .returned (.tuple #[.int .i64 (findT T path).2, TErr (findT T path).1]) ∧ TreeLaw W w' tb T := by
  obtain ⟨F, h1, h2⟩ := h.tree
  exact (find_is h1 path hs).mono fun e w' x => ⟨x.1, h.still x.2⟩
theorem law_nodes (h : TreeLaw W w tb T) : Calls Tryz.prog 35 #[.pointer (some ⟨tb, 0, none⟩)] w fun e w' => e = .returned (.int .i64 (T.length : Int)) ∧ w' = w := by
  obtain ⟨F, h1, h2⟩ := h.tree
  exact nodes_is h1
theorem law_link (h : TreeLaw W w tb T) (old path : ByteArray) (hs1 : old.size < 4294967281) (hs2 : path.size < 4294967281) (hb : ∀ n p, mget T n = some p → p.names < 1000000) :
    Calls Tryz.prog 37 #[.pointer (some ⟨tb, 0, none⟩), .string old, .string path] w fun e w' => e = .returned (TErr (linkE T old path)) ∧ TreeLaw W w' tb (linkT T old path) := by
  obtain ⟨F, h1, h2⟩ := h.tree
  exact (link_is h1 old path hs1 hs2 hb).mono fun e w' x => ⟨x.1, TreeLaw.next h.turn h2 x.2⟩
theorem law_unlink (h : TreeLaw W w tb T) (path : ByteArray) (hs : path.size < 4294967281) (hb : ∀ n p, mget T n = some p → p.names < 1000000 ∧ p.ds.length < 1000000) :
    Calls Tryz.prog 39 #[.pointer (some ⟨tb, 0, none⟩), .string path] w fun e w' => e = .returned (TErr (unlinkE T path)) ∧ TreeLaw W w' tb (unlinkT T path) := by
  obtain ⟨F, h1, h2⟩ := h.tree
  exact (unlink_is h1 path hs hb).mono fun e w' x => ⟨x.1, TreeLaw.next h.turn h2 x.2⟩
theorem law_list (h : TreeLaw W w tb T) (path : ByteArray) (hs : path.size < 4294967281) (hb : ∀ n p, mget T n = some p → p.ds.length ≤ 1000000) :
    Calls Tryz.prog 46 #[.pointer (some ⟨tb, 0, none⟩), .string path] w fun e w' => ∃ a cap, e = .returned (.tuple #[.slice a (listT T path).length cap, TErr (listE T path)]) ∧ StrsIn w' a (listT T path) ∧ TreeLaw W w' tb T := by
  obtain ⟨F, h1, h2⟩ := h.tree
  refine (list_is h1 path hs hb).mono ?_
  rintro e w' ⟨v, rfl, hrow, t, _⟩
  obtain ⟨a, cap, rfl, hl, _⟩ := hrow.strs
  exact ⟨a, cap, rfl, hl, h.still t⟩
end
end Go.Proofs.YtiohpmcedfbcgacGreatDoor
/- The law's sameTexts at two alike: true. Conditions: each theorem's own premises. -/
namespace Go.Proofs.YtiohpmcedfbcgacGreatDoor
open Go.RowKit
set_option linter.unusedVariables false

set_option maxRecDepth 100000 in
theorem sameTexts_same {w : World} (l : List ByteArray) (a a2 : Option Addr) (cap cap2 : Nat) (hl : l.length ≤ 1000000) (h1 : StrsIn w a l) (h2 : StrsIn w a2 l) :
    Calls Tryz.prog 105 #[.slice a l.length cap, .slice a2 l.length cap2] w fun e w' => e = .returned (.bool true) ∧ Turn (fun _ => False) w w' := by
  have H1 := hid h1
  have H2 := hid h2
  have hne : ((l.length : Int) != l.length) = false := by simp
  clear h1 h2
  go_enter Tryz.func105, Tryz.ntmps105
  go_wp2_with fail
  go_loopw [5] (fun i wr => ∃ j : Nat, j ≤ l.length ∧ i = .int .i64 j ∧ Hid (Turn (fun _ => False) w wr)) (fun i _ => l.length - (intOf i).toNat)
  case atStart => exact ⟨0, Nat.zero_le _, rfl, hid (Turn.refl _ _)⟩
  case round =>
    obtain ⟨j, hj, rfl, hT⟩ := hrel
    by_cases hlt : j < l.length
    · have hlt' : (j : Int) < l.length := by omega
      obtain ⟨s, hs⟩ : ∃ t, l[j]? = some t := ⟨_, List.getElem?_eq_getElem hlt⟩
      obtain ⟨g, o1, rfl, hg, hb⟩ := H1.out.resolve_left (by rintro rfl; simp at hlt)
      obtain ⟨g2, o2, rfl, hg2, hb2⟩ := H2.out.resolve_left (by rintro rfl; simp at hlt)
      have c0 := (hT.out.cell (a := ⟨g, o1 + j, none⟩) hg id).trans (hb j s hs)
      have k0 := (hT.out.cell (a := ⟨g2, o2 + j, none⟩) hg2 id).trans (hb2 j s hs)
      clear hb hb2 hs
      go_wp2_with fail
      go_quiet (fail)
      go_wp2_with fail
      go_roundw
      case rel => exact ⟨j + 1, by omega, by go_num, hid (hT.out.drewN _)⟩
      case measure => simp [intOf]; omega
    · have hlt' : ¬ (j : Int) < l.length := by omega
      go_wp2_with fail
      go_ret
      exact ⟨rfl, hT.out⟩
end Go.Proofs.YtiohpmcedfbcgacGreatDoor
