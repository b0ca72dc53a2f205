/- Each node has a name, or is held: kept by all of the tree's changes. Plain. Conditions: each theorem's own premises. -/
import Derived.Test.YtiohpmcedfbcgacGreatDoorRefTreeSweep
import Derived.Test.YtiohpmcedfbcgacGreatDoorRefTreeMove
import Derived.Test.YtiohpmcedfbcgacGreatDoorRefTreeLink
import Derived.Test.YtiohpmcedfbcgacGreatDoorRefTreeNew
namespace Go.Proofs.YtiohpmcedfbcgacGreatDoor
open Go.RowKit
set_option linter.unusedVariables false
section
variable {T : PT} {p q q' : PN} {n d z : Int} {s path old : ByteArray}
theorem Alive.put (h : Alive T) (hq : q.names ≠ 0 ∨ q.held ≠ 0) : Alive (mput T n q) := fun m r hr => by
  rw [mget_mput] at hr
  by_cases e : m = n
  · rw [if_pos e] at hr; cases hr; exact hq
  · rw [if_neg e] at hr; exact h m r hr
theorem Alive.updN_ (h : Alive T) {f : PN → PN} (hf : ∀ p : PN, p.names ≠ 0 ∨ p.held ≠ 0 → (f p).names ≠ 0 ∨ (f p).held ≠ 0) (n : Int) : Alive (updN T n f) := by
  unfold updN
  cases hn : mget T n with
  | none => exact h
  | some p => exact h.put (hf p (h n p hn))
theorem alive_gone (ha : ∀ m r, m ≠ n → mget T m = some r → r.names ≠ 0 ∨ r.held ≠ 0) (hn : mget T n = some p) : Alive (goneT T n p) := by
  unfold goneT
  by_cases h : p.names = 0 ∧ p.held = 0
  · rw [if_pos h]
    intro m r hr
    rw [mget_mdel] at hr
    by_cases e : m = n
    · rw [if_pos e] at hr; cases hr
    · rw [if_neg e] at hr; exact ha m r e hr
  · rw [if_neg h]
    intro m r hr
    by_cases e : m = n
    · rw [e, hn] at hr
      cases hr
      by_cases h1 : p.names = 0
      · exact .inr (fun h2 => h ⟨h1, h2⟩)
      · exact .inl h1
    · exact ha m r e hr
theorem alive_root : Alive rootT := fun n p hp => by
  have h := mem_of_mget hp
  unfold rootT at h
  have h := List.mem_singleton.1 h
  cases h
  exact .inl (by decide)
theorem Alive.make (h : Alive T) (path : ByteArray) (b : Bool) : Alive (makeT T path b) := by
  unfold makeT
  split
  · have h1 : Alive (mput T (freeT T) (newN b)) := h.put (.inl (show (1 : Nat) ≠ 0 by omega))
    unfold nameT
    cases hn : mget (mput T (freeT T) (newN b)) (placeT T path).2.1 with
    | none => exact h1
    | some p => exact h1.put (h1 _ p hn)
  · exact h
theorem Alive.link (h : Alive T) (old path : ByteArray) : Alive (linkT T old path) := by
  unfold linkT
  split
  · exact Alive.updN_ (f := fun q => { q with names := q.names + 1 }) (Alive.updN_ (f := fun p => { p with ds := mput p.ds (placeT T path).2.2 (findT T old).2 }) h (fun p hp => hp) _) (fun p hp => .inl (Nat.succ_ne_zero p.names)) _
  · exact h
theorem Alive.move (h : Alive T) (old path : ByteArray) : Alive (moveT T old path) := by
  unfold moveT
  split
  · cases mget (dsT T (placeT T old).2.1) (placeT T old).2.2 with
    | none => exact h
    | some n => exact Alive.updN_ (f := fun q => { q with ds := mput q.ds (placeT T path).2.2 n }) (Alive.updN_ (f := fun p => { p with ds := mdel p.ds (placeT T old).2.2 }) h (fun p hp => hp) _) (fun p hp => hp) _
  · exact h
theorem Alive.setData (h : Alive T) (n : Int) (x : ByteArray) : Alive (setDataT T n x) := by
  unfold setDataT
  cases hn : mget T n with
  | none => exact h
  | some p => exact h.put (h n p hn)
theorem Alive.write (h : Alive T) (n z : Int) (s : ByteArray) : Alive (writeT T n z s) := by
  unfold writeT
  split
  · exact h.setData n _
  · exact h
theorem Alive.cut (h : Alive T) (n z : Int) : Alive (cutT T n z) := by
  unfold cutT
  split
  · exact h.setData n _
  · exact h
theorem Alive.hold (h : Alive T) (n : Int) : Alive (holdT T n) := by
  unfold holdT
  cases hn : mget T n with
  | none => exact h
  | some p =>
    simp only [Option.elim]
    split
    · exact h
    · exact h.put (.inr (Nat.succ_ne_zero _))
theorem Alive.drop (h : Alive T) (n : Int) : Alive (dropT T n) := by
  unfold dropT
  cases hn : mget T n with
  | none => exact h
  | some p =>
    simp only [Option.elim]
    split
    · exact h
    · split
      · exact h
      · exact alive_gone (fun m r e hr => by rw [mget_mput, if_neg e] at hr; exact h m r hr) (by rw [mget_mput, if_pos rfl])
theorem Alive.unlink (h : Alive T) (path : ByteArray) : Alive (unlinkT T path) := by
  unfold unlinkT
  split
  · cases mget (dsT T (placeT T path).2.1) (placeT T path).2.2 with
    | none => exact h
    | some n =>
      simp only [Option.elim]
      cases hq : mget T n with
      | none => exact h
      | some q =>
        exact alive_gone (fun m r e hr => by
          rw [mget_mput, if_neg e] at hr
          exact Alive.updN_ (f := fun p => { p with ds := mdel p.ds (placeT T path).2.2 }) h (fun p hp => hp) _ m r hr) (by rw [mget_mput, if_pos rfl])
  · exact h
end
end Go.Proofs.YtiohpmcedfbcgacGreatDoor
