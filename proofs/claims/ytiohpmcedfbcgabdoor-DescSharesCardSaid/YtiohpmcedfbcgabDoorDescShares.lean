/- DescShares walked: true, and nothing that was there turns. Condition: errors.errorType holds what is laid. -/
import Derived.Test.YtiohpmcedfbcgabDoorDescOpened
namespace Go.Proofs.YtiohpmcedfbcgabDoor
open Go.RowKit
set_option linter.unusedVariables false
theorem ext_behind (s u : ByteArray) : (s ++ u).extract (min s.size (s ++ u).size) (s ++ u).size = u := by
  have hsz : (s ++ u).size = s.size + u.size := append_size _ _
  rw [hsz, Nat.min_eq_left (by omega)]
  apply ba_ext
  rw [Go.Lib.extract_data, app_data, List.drop_left' (by rw [← Go.Lib.size_eq])]
  exact List.take_of_length_le (by rw [← Go.Lib.size_eq]; omega)
theorem ext_front (x : ByteArray) : x.extract (min (0 : Int).toNat x.size) x.size = x := by
  rw [show min (0 : Int).toNat x.size = 0 from Nat.zero_min _]
  exact app_all x
theorem ext_last (x : ByteArray) : x.extract (min x.size x.size) x.size = ByteArray.empty := by
  rw [Nat.min_self]; exact ext_end x
set_option maxRecDepth 100000 in
theorem descShares_long (s u : ByteArray) (w : World) (h : 40 < s.size ∨ 40 < u.size) :
    Calls Tryd.prog 10 #[.string s, .string u] w fun e w' => e = .returned (.bool true) ∧ Turn (fun _ => False) w w' := by
  by_cases h1 : 40 < s.size
  · have h1' : (40 : Int) < s.size := by omega
    clear h h1
    go_enter Tryd.func10, Tryd.ntmps10
    go_wp2_with fail
    go_returns
    exact ⟨rfl, Turn.refl _ _⟩
  · have h1' : ¬ (40 : Int) < s.size := by omega
    have h2' : (40 : Int) < u.size := by omega
    clear h h1
    go_enter Tryd.func10, Tryd.ntmps10
    go_wp2_with fail
    go_returns
    exact ⟨rfl, Turn.refl _ _⟩
set_option maxHeartbeats 8000000 in
set_option maxRecDepth 100000 in
theorem descShares_is (s u : ByteArray) (W : World) (hs : s.size ≤ 40) (hu : u.size ≤ 40) (hL : Laid W) :
    Calls Tryd.prog 10 #[.string s, .string u] W fun e w' => e = .returned (.bool true) ∧ Turn (fun _ => False) W w' := by
  have h1' : ¬ (40 : Int) < s.size := by omega
  have h2' : ¬ (40 : Int) < u.size := by omega
  have HL := hid hL
  clear hL
  obtain ⟨X, hX⟩ : ∃ X, s ++ u = X := ⟨_, rfl⟩
  have hXs : X.size = s.size + u.size := by rw [← hX]; exact append_size _ _
  have HX := hid hX
  have HXs := hid hXs
  clear hX hXs
  go_enter Tryd.func10, Tryd.ntmps10
  go_wp2_with fail
  refine (opened_is W HL.out).mono ?_
  rintro e w0 ⟨rfl, t0⟩
  have HT0 := hid t0
  clear t0
  go_wp2_with fail
  refine (law_new w0).mono ?_
  rintro e w1 ⟨tb, rfl, h1⟩
  have H1 := hid h1
  clear h1
  have HL0 := hid (HL.out.turned0 HT0.out)
  go_wp2_with fail
  refine (law_dnew H1.out).mono ?_
  rintro e w2 ⟨fb, rfl, h2⟩
  have H2 := hid h2.table
  clear h2 H1 HL
  go_wp2_with fail
  refine (law_file (S := DS0) (L := noTab) (tab := w2.heap.size) (ts := [(w2.heap.size, noTab)]) (i := 0) H2.out ds0_ok rfl HL0.out bX (by decide) 3 true).mono ?_
  rintro e w3 ⟨rfl, h3⟩
  rw [file1.1, file1.2.1, terr0]
  rw [file1.2.2.1, file1.2.2.2] at h3
  have H3 := hid h3
  clear h3 H2
  go_wp2_with fail
  refine (law_dup (S := DS1 ByteArray.empty 0 1) (L := L1) (tab := w2.heap.size) (ts := [(w2.heap.size, L1)]) (i := 0) H3.out (ds1_ok (by decide) (by decide)) rfl tab1 0 (fun k e he => by rw [(ds1_get he).2]; show 1 < 1000000; decide)).mono ?_
  rintro e w4 ⟨rfl, h4⟩
  rw [dup1.1, dup1.2.1, terr0]
  rw [dup1.2.2.1, dup1.2.2.2] at h4
  have H4 := hid h4
  clear h4 H3
  go_wp2_with fail
  refine (law_fork (S := DS1 ByteArray.empty 0 2) (L := L2) (tab := w2.heap.size) (ts := [(w2.heap.size, L2)]) (i := 0) H4.out rfl tab2 (fun k e he => by rw [(ds1_get he).2]; show 2 < 999000; decide)).mono ?_
  rintro e w5 ⟨ub, rfl, h5⟩
  rw [fork2] at h5
  have H5 := hid h5
  clear h5 H4
  go_wp2_with fail
  refine (law_dwrite (S := DS1 ByteArray.empty 0 4) (L := L2) (tab := w2.heap.size) (ts := [(w2.heap.size, L2), (ub, L2)]) (i := 0) H5.out (ds1_ok (by decide) (by decide)) rfl tab2 0 s (by omega) 100 (by decide) (by decide)).mono ?_
  rintro e w6 ⟨rfl, h6⟩
  have hwr := write_end (x := ByteArray.empty) (a := 0) (r := 4) (s := s) (n := 0) ent0 rfl (by have : ByteArray.empty.size = 0 := rfl; omega)
  rw [hwr.1, hwr.2.1, terr0]
  rw [hwr.2.2, empty_app, Int.zero_add] at h6
  have H6 := hid h6
  clear h6 hwr H5
  go_wp2_with fail
  refine (law_dwrite (S := DS1 s s.size 4) (L := L2) (tab := ub) (ts := [(w2.heap.size, L2), (ub, L2)]) (i := 1) H6.out (ds1_ok ⟨by omega, by omega⟩ (by decide)) rfl tab2 1 u (by omega) 100 (by decide) (by decide)).mono ?_
  rintro e w7 ⟨rfl, h7⟩
  have hwr := write_end (x := s) (a := s.size) (r := 4) (s := u) (n := 1) ent1 rfl (by omega)
  rw [hwr.1, hwr.2.1, terr0]
  rw [hwr.2.2, HX.out] at h7
  have H7 := hid h7
  clear h7 hwr H6
  go_wp2_with fail
  refine (law_file (S := DS1 X (s.size + u.size) 4) (L := L2) (tab := ub) (ts := [(w2.heap.size, L2), (ub, L2)]) (i := 1) H7.out (ds1_ok ⟨by omega, by omega⟩ (by decide)) rfl HL0.out bX (by decide) 1 false).mono ?_
  rintro e w8 ⟨rfl, h8⟩
  rw [file2.1, file2.2.1, terr0]
  rw [file2.2.2.1, file2.2.2.2] at h8
  have H8 := hid h8
  clear h8 H7
  go_wp2_with fail
  refine (law_dread (S := DS2 X (s.size + u.size) 4 0) (L := L3) (tab := ub) (ts := [(w2.heap.size, L2), (ub, L3)]) (i := 1) H8.out (ds2_ok ⟨by omega, by omega⟩ (by decide) (by decide)) rfl tab3 2 100).mono ?_
  rintro e w9 ⟨rfl, h9⟩
  have hrd := read2 (x := X) (a := s.size + u.size) (r := 4) (c := 0) (L := L3) (n := 2) ent32 rfl (by decide) rfl (by decide) (by have := HXs.out; omega)
  rw [hrd.1, hrd.2.1, terr0]
  rw [hrd.2.2] at h9
  simp only [ext_front] at h9
  rw [put21, Int.zero_add] at h9
  rw [show (⟨1, 1, 1, 0, 0, 1⟩ : PE).at' = 0 from rfl, ext_front]
  have H9 := hid h9
  clear h9 hrd H8
  go_wp2_with fail
  refine (law_dread (S := DS2 X (s.size + u.size) 4 X.size) (L := L2) (tab := w2.heap.size) (ts := [(w2.heap.size, L2), (ub, L3)]) (i := 0) H9.out (ds2_ok ⟨by omega, by omega⟩ (by decide) (by have := HXs.out; omega)) rfl tab2' 1 100).mono ?_
  rintro e w10 ⟨rfl, h10⟩
  have hrd := read2 (x := X) (a := s.size + u.size) (r := 4) (c := X.size) (L := L2) (n := 1) ent21 rfl (show (3 : Int) ≠ 2 by decide) rfl (by show (0 : Int) ≤ (s.size : Int) + u.size; omega) (by have := HXs.out; omega)
  have hmin : X.extract (min ((⟨1, 3, 1, 0, (s.size : Int) + u.size, 4⟩ : PE).at').toNat X.size) X.size = ByteArray.empty := by
    rw [show ((⟨1, 3, 1, 0, (s.size : Int) + u.size, 4⟩ : PE).at').toNat = X.size from by have := HXs.out; show ((s.size : Int) + u.size).toNat = _; omega]
    exact ext_last X
  rw [hrd.1, hrd.2.1, terr0, hmin]
  rw [hrd.2.2, hmin] at h10
  rw [show (⟨1, 3, 1, 0, (s.size : Int) + u.size, 4⟩ : PE).at' + ((ByteArray.empty.size : Nat) : Int) = (s.size : Int) + u.size from by show (s.size : Int) + u.size + ((0 : Nat) : Int) = _; omega, put20] at h10
  have H10 := hid h10
  clear h10 hrd H9 hmin
  go_wp2_with fail
  refine (law_dwrite (S := DS2 X (s.size + u.size) 4 X.size) (L := L3) (tab := ub) (ts := [(w2.heap.size, L2), (ub, L3)]) (i := 1) H10.out (ds2_ok ⟨by omega, by omega⟩ (by decide) (by have := HXs.out; omega)) rfl tab3 2 ⟨#[113]⟩ (by decide) 100 (by decide) (by decide)).mono ?_
  rintro e w11 ⟨rfl, h11⟩
  rw [(write32 _).1, wrK32]
  rw [(write32 _).2] at h11
  have H11 := hid h11
  clear h11 H10
  rw [TErr_of (show (13 : Int) ≠ 0 by decide)]
  have hXl : X.toList = (s ++ u).toList := by rw [HX.out]
  go_wp2_with fail
  clear hXl
  refine (tell_errno 13 _ (HL0.out.turned0 H11.out.turn)).mono ?_
  rintro e w12 ⟨rfl, t12⟩
  have H12 := hid (H11.out.still t12)
  clear t12 H11
  go_wp2_with fail
  refine (law_seek (S := DS2 X (s.size + u.size) 4 X.size) (L := L2) (tab := w2.heap.size) (ts := [(w2.heap.size, L2), (ub, L3)]) (i := 0) H12.out rfl tab2' 0 s.size).mono ?_
  rintro e w13 ⟨rfl, h13⟩
  rw [(seek20 (v := (s.size : Int)) ⟨by omega, by omega⟩).1, terr0]
  rw [(seek20 (v := (s.size : Int)) ⟨by omega, by omega⟩).2] at h13
  have H13 := hid h13
  clear h13 H12
  go_wp2_with fail
  refine (law_dread (S := DS2 X s.size 4 X.size) (L := L3) (tab := ub) (ts := [(w2.heap.size, L2), (ub, L3)]) (i := 1) H13.out (ds2_ok ⟨by omega, by omega⟩ (by decide) (by have := HXs.out; omega)) rfl tab3 1 100).mono ?_
  rintro e w14 ⟨rfl, h14⟩
  have hrd := read2 (x := X) (a := s.size) (r := 4) (c := X.size) (L := L3) (n := 1) ent31 rfl (show (3 : Int) ≠ 2 by decide) rfl (by show (0 : Int) ≤ (s.size : Int); omega) (by have := HXs.out; omega)
  have hmin : X.extract (min ((⟨1, 3, 1, 0, (s.size : Int), 4⟩ : PE).at').toNat X.size) X.size = u := by
    rw [show ((⟨1, 3, 1, 0, (s.size : Int), 4⟩ : PE).at').toNat = s.size from Int.toNat_natCast _, ← HX.out]
    exact ext_behind s u
  rw [hrd.1, hrd.2.1, terr0, hmin]
  rw [hrd.2.2, hmin] at h14
  rw [show (⟨1, 3, 1, 0, (s.size : Int), 4⟩ : PE).at' + ((u.size : Nat) : Int) = (s.size : Int) + u.size from rfl, put20] at h14
  have H14 := hid h14
  clear h14 hrd H13 hmin
  go_wp2_with fail
  refine (law_close (S := DS2 X (s.size + u.size) 4 X.size) (L := L2) (tab := w2.heap.size) (ts := [(w2.heap.size, L2), (ub, L3)]) (i := 0) H14.out (ds2_ok ⟨by omega, by omega⟩ (by decide) (by have := HXs.out; omega)) rfl tab2' 0).mono ?_
  rintro e w15 ⟨rfl, h15⟩
  rw [(close20 (by decide)).1, terr0]
  rw [(close20 (by decide)).2.1, (close20 (by decide)).2.2] at h15
  have H15 := hid h15
  clear h15 H14
  go_wp2_with fail
  refine (law_has (S := DS2 X (s.size + u.size) 3 X.size) (L := L0b) (tab := w2.heap.size) (ts := [(w2.heap.size, L0b), (ub, L3)]) (i := 0) H15.out rfl tab0b 1).mono ?_
  rintro e w16 ⟨rfl, h16⟩
  rw [has0b.1]
  have H16 := hid h16
  clear h16 H15
  go_wp2_with fail
  refine (law_has (S := DS2 X (s.size + u.size) 3 X.size) (L := L0b) (tab := w2.heap.size) (ts := [(w2.heap.size, L0b), (ub, L3)]) (i := 0) H16.out rfl tab0b 0).mono ?_
  rintro e w17 ⟨rfl, h17⟩
  rw [has0b.2]
  have H17 := hid h17
  clear h17 H16
  go_wp2_with fail
  refine (law_open H17.out).mono ?_
  rintro e w18 ⟨rfl, rfl⟩
  have hlen : ((DS2 X (s.size + u.size) 3 X.size).es.length : Int) = 2 := rfl
  rw [hlen]
  go_wp2_with fail
  go_ret
  exact ⟨rfl, HT0.out.trans H17.out.turn⟩
end Go.Proofs.YtiohpmcedfbcgabDoor
