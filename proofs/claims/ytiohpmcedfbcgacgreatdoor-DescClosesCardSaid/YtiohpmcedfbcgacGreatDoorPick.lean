/- The law's own 'pick': a number from 0 to below n. Condition: n is from 1 to 10^6. -/
import Derived.Test.YtiohpmcedfbcgacGreatDoorProg
import Derived.Test.YtiohpmcedfbcgacGreatDoorBase
namespace Go.Proofs.YtiohpmcedfbcgacGreatDoor
open Go.RowKit

/-- What 'pick' comes to. -/
def pk (a n : Int) : Int := (IntKind.u64.wrap a) % n
theorem pk_nonneg (a n : Int) (h : 1 ≤ n) : 0 ≤ pk a n := Int.emod_nonneg _ (by omega)
theorem pk_lt (a n : Int) (h : 1 ≤ n) : pk a n < n := Int.emod_lt_of_pos _ (by omega)
theorem u64_nonneg (a : Int) : 0 ≤ IntKind.u64.wrap a := by
  have e : IntKind.u64.wrap a = a % 18446744073709551616 := rfl
  rw [e]; omega

set_option maxHeartbeats 400000 in
theorem pick_any (a n : Int) (w : World) (hn : 1 ≤ n) (hn2 : n ≤ 1000000) :
    Calls Tryz.prog 16 #[.int .i64 a, .int .i64 n] w fun e w' => e = .returned (.int .i64 (pk a n)) ∧ w = w' := by
  have h0 := u64_nonneg a
  have h1 := pk_lt a n hn
  have hw : Hid (wrap64 (pk a n) = pk a n) := hid (IntWalk.wrap64_in _ ⟨by have := pk_nonneg a n hn; omega, by omega⟩)
  unfold pk at h1 hw ⊢
  go_enter Tryz.func16, Tryz.ntmps16
  go_wp2
  go_ret
  exact ⟨ret_int hw.out, rfl⟩

/-- The same, the number under a name of its own. -/
def Picked (n : Int) (w : World) (e : Ending) (w' : World) : Prop := ∃ k : Int, 0 ≤ k ∧ k < n ∧ e = .returned (.int .i64 k) ∧ w = w'
theorem pick_some (a n : Int) (w : World) (hn : 1 ≤ n) (hn2 : n ≤ 1000000) : Calls Tryz.prog 16 #[.int .i64 a, .int .i64 n] w (Picked n w) :=
  (pick_any a n w hn hn2).mono fun _ _ ⟨he, hw⟩ => ⟨pk a n, pk_nonneg a n hn, pk_lt a n hn, he, hw⟩

end Go.Proofs.YtiohpmcedfbcgacGreatDoor
