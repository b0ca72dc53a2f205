/- The laws' own fact 'opened': a file that is written, and read by another number. Condition: errors.errorType holds what is laid. -/
import Derived.Test.YtiohpmcedfbcgabDoorDescFlat
namespace Go.Proofs.YtiohpmcedfbcgabDoor
open Go.RowKit
set_option linter.unusedVariables false
def bHello : ByteArray := ⟨#[104, 101, 108, 108, 111]⟩
theorem terr0 : TErr 0 = .nilIface := rfl
theorem empty_app (s : ByteArray) : ByteArray.empty ++ s = s := by
  apply ba_ext
  rw [app_data]; rfl
set_option maxHeartbeats 4000000 in
set_option maxRecDepth 100000 in
theorem opened_is (W : World) (hL : Laid W) : Calls Tryd.prog 75 #[] W fun e w' => e = .returned (.bool true) ∧ Turn (fun _ => False) W w' := by
  have HL := hid hL
  clear hL
  go_enter Tryd.func75, Tryd.ntmps75
  go_wp2_with fail
  refine (law_new W).mono ?_
  rintro e w1 ⟨tb, rfl, h1⟩
  have H1 := hid h1
  clear h1
  go_wp2_with fail
  refine (law_dnew H1.out).mono ?_
  rintro e w2 ⟨fb, rfl, h2⟩
  have H2 := hid h2.table
  clear h2
  obtain ⟨ta, hta⟩ : ∃ ta, w2.heap.size = ta := ⟨_, rfl⟩
  have HTa := hid hta
  clear hta
  go_wp2_with fail
  refine (law_file (S := DS0) (L := noTab) (tab := w2.heap.size) (ts := [(w2.heap.size, noTab)]) (i := 0) H2.out ds0_ok rfl HL.out bX (by decide) 3 true).mono ?_
  rintro e w3 ⟨rfl, h3⟩
  rw [file1.1, file1.2.1, terr0]
  rw [file1.2.2.1, file1.2.2.2] at h3
  have H3 := hid h3
  clear h3
  go_wp2_with fail
  refine (law_dup (S := DS1 ByteArray.empty 0 1) (L := L1) (tab := w2.heap.size) (ts := [(w2.heap.size, L1)]) (i := 0) H3.out (ds1_ok (by decide) (by decide)) rfl tab1 0 (fun k e he => by rw [(ds1_get he).2]; show 1 < 1000000; decide)).mono ?_
  rintro e w4 ⟨rfl, h4⟩
  rw [dup1.1, dup1.2.1, terr0]
  rw [dup1.2.2.1, dup1.2.2.2] at h4
  have H4 := hid h4
  clear h4
  go_wp2_with fail
  refine (law_dwrite (S := DS1 ByteArray.empty 0 2) (L := L2) (tab := w2.heap.size) (ts := [(w2.heap.size, L2)]) (i := 0) H4.out (ds1_ok (by decide) (by decide)) rfl tab2 0 bHello (by decide) 100 (by decide) (by decide)).mono ?_
  rintro e w5 ⟨rfl, h5⟩
  have hwr := write_end (x := ByteArray.empty) (a := 0) (r := 2) (s := bHello) (n := 0) ent0 rfl (by decide)
  rw [hwr.1, hwr.2.1, terr0]
  rw [hwr.2.2] at h5
  have H5 := hid h5
  clear h5 hwr
  have hsz : ((bHello.size : Nat) : Int) = 5 := rfl
  rw [hsz]
  clear hsz
  go_wp2_with fail
  refine (law_seek (S := DS1 (ByteArray.empty ++ bHello) (0 + (bHello.size : Nat)) 2) (L := L2) (tab := w2.heap.size) (ts := [(w2.heap.size, L2)]) (i := 0) H5.out rfl tab2 1 1).mono ?_
  rintro e w6 ⟨rfl, h6⟩
  rw [(seek1 (by decide)).1, terr0]
  rw [(seek1 (by decide)).2] at h6
  have H6 := hid h6
  clear h6
  go_wp2_with fail
  refine (law_open H6.out).mono ?_
  rintro e w7 ⟨rfl, rfl⟩
  have hlen : ((DS1 (ByteArray.empty ++ bHello) 1 2).es.length : Int) = 1 := rfl
  rw [hlen]
  go_wp2_with fail
  go_ret
  exact ⟨rfl, H6.out.turn⟩
end Go.Proofs.YtiohpmcedfbcgabDoor
