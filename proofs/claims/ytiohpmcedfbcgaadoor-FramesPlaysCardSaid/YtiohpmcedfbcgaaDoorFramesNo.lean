/- Further contracts of package frames: what is refused, and how many frames there are. Conditions: each theorem's own premises. -/
import Derived.Test.YtiohpmcedfbcgaaDoorFrames
namespace Go.Proofs.YtiohpmcedfbcgaaDoor
open Go.RowKit
set_option linter.unusedVariables false

theorem memLen {mb wb n : Nat} {m : Nat → Nat → Int} {w : World} (hm : MemIs w mb wb n m) :
    Calls Tryd.prog 24 #[.pointer (some ⟨mb, 0, none⟩)] w fun e w' => e = .returned (.int .i64 n) ∧ w = w' := by
  have hh := hm.hdr
  clear hm
  go_enter Tryd.func24, Tryd.ntmps24
  go_wp2
  go_ret
  exact ⟨rfl, rfl⟩

theorem zero_no {mb wb n : Nat} {m : Nat → Nat → Int} {w : World} (hm : MemIs w mb wb n m) (f : Int) (h : ¬ (0 ≤ f ∧ f < n)) :
    Calls Tryd.prog 26 #[.pointer (some ⟨mb, 0, none⟩), .int .i64 f] w fun e w' => e = .returned (.iface 34 (.int .i64 2)) ∧ w = w' := by
  have hh := hm.hdr
  have H := hid (right_no mb wb n f 0 w hh (by omega))
  clear hm h
  go_enter Tryd.func26, Tryd.ntmps26
  go_wp2_with fail
  refine H.out.mono ?_
  rintro e w' ⟨rfl, rfl⟩
  go_wp2_with fail
  go_ret
  exact ⟨rfl, rfl⟩

theorem copy_no {mb wb n : Nat} {m : Nat → Nat → Int} {w : World} (hm : MemIs w mb wb n m) (f g : Int) (h : ¬ ((0 ≤ f ∧ f < n) ∧ (0 ≤ g ∧ g < n))) :
    Calls Tryd.prog 27 #[.pointer (some ⟨mb, 0, none⟩), .int .i64 f, .int .i64 g] w fun e w' => e = .returned (.iface 34 (.int .i64 2)) ∧ w = w' := by
  have hh := hm.hdr
  by_cases h1 : 0 ≤ f ∧ f < n
  · have H1 := hid (right_yes mb wb n f 0 w hh h1.1 h1.2 (by decide) (by decide))
    have H := hid (right_no mb wb n g 0 w hh (by omega))
    clear hm h h1
    go_enter Tryd.func27, Tryd.ntmps27
    go_wp2_with fail
    refine H1.out.mono ?_
    rintro e w' ⟨rfl, rfl⟩
    go_wp2_with fail
    refine H.out.mono ?_
    rintro e w' ⟨rfl, rfl⟩
    go_wp2_with fail
    go_ret
    exact ⟨rfl, rfl⟩
  · have H := hid (right_no mb wb n f 0 w hh (by omega))
    clear hm h h1
    go_enter Tryd.func27, Tryd.ntmps27
    go_wp2_with fail
    refine H.out.mono ?_
    rintro e w' ⟨rfl, rfl⟩
    go_wp2_with fail
    go_ret
    exact ⟨rfl, rfl⟩

theorem new_no (n : Int) (w : World) (h : n < 1 ∨ 256 < n) : Calls Tryd.prog 22 #[.int .i64 n] w fun e w' => e = .returned (.tuple #[.pointer none, .iface 34 (.int .i64 2)]) ∧ w = w' := by
  rcases h with h | h
  · go_enter Tryd.func22, Tryd.ntmps22
    go_wp2
    go_ret2
    exact ⟨rfl, rfl⟩
  · have h1 : ¬ n < 1 := by omega
    go_enter Tryd.func22, Tryd.ntmps22
    go_wp2
    go_ret2
    exact ⟨rfl, rfl⟩
end Go.Proofs.YtiohpmcedfbcgaaDoor
