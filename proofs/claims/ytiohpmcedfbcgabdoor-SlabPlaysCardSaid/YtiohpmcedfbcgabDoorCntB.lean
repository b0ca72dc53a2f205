/- How many of the first numbers are so. No program in sight. Conditions: each theorem's own premises. -/
import Derived.Test.YtiohpmcedfbcgabDoorBase
namespace Go.Proofs.YtiohpmcedfbcgabDoor
set_option linter.unusedVariables false

/-- How many of the first k are so. -/
def cntB (g : Nat → Bool) (k : Nat) : Nat := ((List.range k).filter g).length
theorem cntB_succ (g : Nat → Bool) (k : Nat) : cntB g (k + 1) = cntB g k + if g k then 1 else 0 := by
  unfold cntB
  rw [List.range_succ, List.filter_append, List.length_append]
  cases h : g k <;> simp [h]
theorem cntB_le (g : Nat → Bool) : ∀ k, cntB g k ≤ k
  | 0 => Nat.le_refl _
  | k + 1 => by
    rw [cntB_succ]
    have := cntB_le g k
    split <;> omega
theorem cntB_all {g : Nat → Bool} : ∀ {k : Nat}, cntB g k = k → ∀ i, i < k → g i = true
  | 0, _, i, hi => by omega
  | k + 1, h, i, hi => by
    rw [cntB_succ] at h
    have hle := cntB_le g k
    cases hg : g k with
    | false => rw [hg] at h; simp at h; omega
    | true =>
      rw [hg] at h; simp at h
      by_cases e : i = k
      · rw [e]; exact hg
      · exact cntB_all h i (by omega)
theorem cntB_first {g : Nat → Bool} : ∀ {k : Nat}, cntB g k < k → ∃ j, j < k ∧ g j = false ∧ ∀ i, i < j → g i = true
  | 0, h => by omega
  | k + 1, h => by
    have hle := cntB_le g k
    by_cases hk : cntB g k < k
    · obtain ⟨j, h1, h2, h3⟩ := cntB_first hk
      exact ⟨j, by omega, h2, h3⟩
    · have hall := cntB_all (g := g) (k := k) (by omega)
      refine ⟨k, by omega, ?_, hall⟩
      rw [cntB_succ] at h
      cases hg : g k with
      | false => rfl
      | true => rw [hg] at h; simp at h; omega
theorem cntB_congr {g g' : Nat → Bool} : ∀ {k : Nat}, (∀ j, j < k → g j = g' j) → cntB g k = cntB g' k
  | 0, _ => rfl
  | k + 1, h => by
    rw [cntB_succ, cntB_succ, cntB_congr (k := k) (fun j hj => h j (by omega)), h k (by omega)]
end Go.Proofs.YtiohpmcedfbcgabDoor
