/- PipeOrder's own fact 'piped': true. No condition. -/
import Derived.Test.YtiohpmcedfbcgaaDoorPipe
namespace Go.Proofs.YtiohpmcedfbcgaaDoor
open Go.RowKit
set_option linter.unusedVariables false

def digits : ByteArray := ⟨#[48, 49, 50, 51, 52, 53, 54, 55, 56, 57, 97, 98, 99, 100, 101, 102, 103, 104]⟩

set_option maxRecDepth 100000 in
theorem piped_any (w : World) : Calls Tryd.prog 9 #[] w fun e w' => e = .returned (.bool true) ∧ Turn (fun _ => False) w w' := by
  have hp : PipeIs (w.alloc (.cells #[.string ByteArray.empty, .int .i64 0, .int .i64 0] 26)) w.heap.size ByteArray.empty 0 0 := ⟨by simp, by simp, by simp, by simp⟩
  have T0 : Turn (fun k => k = w.heap.size) w (w.alloc (.cells #[.string ByteArray.empty, .int .i64 0, .int .i64 0] 26)) := (Turn.refl _ _).alloc _
  have HP := hid hp
  have HT := hid T0
  clear hp T0
  have hd : ((digits.extract 0 16).extract 0 3).toList = [48, 49, 50] := by rw [Go.Lib.toList_data]; decide +kernel
  have hz : ((ByteArray.empty ++ digits.extract 0 16).extract 3 (ByteArray.empty ++ digits.extract 0 16).size).size = 13 := by decide +kernel
  have HZ := hid hz
  clear hz
  go_enter Tryd.func9, Tryd.ntmps9
  go_wp2_with fail
  refine (open2 HP.out (by decide) (by decide)).mono ?_
  rintro e w1 ⟨rfl, p1, t1⟩
  have HP1 := hid p1
  have HT1 := hid (HT.out.trans t1)
  clear p1 t1 HP HT
  go_wp2_with fail
  refine (open3 HP1.out (by decide) (by decide)).mono ?_
  rintro e w2 ⟨rfl, p2, t2⟩
  have HP2 := hid p2
  have HT2 := hid (HT1.out.trans t2)
  clear p2 t2 HP1 HT1
  go_wp2_with fail
  refine (write_some HP2.out (by decide) digits (by decide) (by decide) (by decide) 16 (by decide)).mono ?_
  rintro e w3 ⟨rfl, p3, t3⟩
  have HP3 := hid p3
  have HT3 := hid (HT2.out.trans t3)
  clear p3 t3 HP2 HT2
  go_wp2_with fail
  refine (read_some HP3.out 3 (by decide) (by decide) (.inr (.inl (by decide))) 3 (by decide)).mono ?_
  rintro e w4 ⟨rfl, p4, t4⟩
  have HP4 := hid p4
  have HT4 := hid (HT3.out.trans t4)
  clear p4 t4 HP3 HT3
  go_wp2_with fail
  refine (len_is HP4.out).mono ?_
  rintro e w5 ⟨rfl, rfl⟩
  rw [HZ.out]
  go_wp2_with fail
  all_goals go_ret
  all_goals exact ⟨rfl, HT4.out.mono (fun k hk h => absurd hk (by rw [h]; omega))⟩
end Go.Proofs.YtiohpmcedfbcgaaDoor
