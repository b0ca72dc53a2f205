/- The free blocks of a pool, list by list. No program in sight. Conditions: each theorem's own premises. -/
import Derived.Test.YtiohpmcedfbcgabGreatDoorBuddyGive
import Derived.Test.YtiohpmcedfbcgabGreatDoorBase
namespace Go.Proofs.YtiohpmcedfbcgabGreatDoor
open Go.RowKit
set_option linter.unusedVariables false

/-- The free blocks of orders below k, list by list. -/
def listTo (fr : Fr) : Nat → List Bk
  | 0 => []
  | k + 1 => listTo fr k ++ (fr k).map fun b => (b, k)
theorem mem_listTo {fr : Fr} : ∀ {k : Nat} {t : Bk}, t ∈ listTo fr k ↔ t.2 < k ∧ t.1 ∈ fr t.2
  | 0, t => by simp [listTo]
  | k + 1, t => by
    unfold listTo
    rw [List.mem_append, mem_listTo, List.mem_map]
    constructor
    · rintro (⟨h1, h2⟩ | ⟨b, hb, rfl⟩)
      · exact ⟨by omega, h2⟩
      · exact ⟨by simp, hb⟩
    · rintro ⟨h1, h2⟩
      by_cases e : t.2 = k
      · exact .inr ⟨t.1, by rw [← e]; exact h2, by rw [← e]⟩
      · exact .inl ⟨by omega, h2⟩
theorem listTo_len {fr : Fr} (h : ∀ k, k < 7 → (fr k).length ≤ 256) : ∀ {k : Nat}, k ≤ 7 → (listTo fr k).length ≤ 256 * k
  | 0, _ => by simp [listTo]
  | k + 1, hk => by
    have h1 := listTo_len h (k := k) (by omega)
    have h2 := h k (by omega)
    unfold listTo
    rw [List.length_append, List.length_map]
    omega

def FreeOf (fr : Fr) (l : List Bk) : Prop := l.Perm (listTo fr 7) ∧ l.Pairwise fun s t => s.1 ≤ t.1
end Go.Proofs.YtiohpmcedfbcgabGreatDoor
