/- PipeOrder walked: true, and nothing that was there turns. Conditions: the variable errors.errorType holds what is laid; the argument lies in memory as a slice of Flows. -/
import Derived.Test.YtiohpmcedfbcgaaDoorPipe
import Derived.Test.YtiohpmcedfbcgaaDoorPiped
import Derived.Test.YtiohpmcedfbcgaaDoorPick
import Derived.Test.YtiohpmcedfbcgaaDoorTell
import Derived.Deep.CutRange
import Derived.Deep.DeepCutAuto
import Derived.Deep.LoopGhost
namespace Go.Proofs.YtiohpmcedfbcgaaDoor
open Go.RowKit
set_option linter.unusedVariables false

/-- A list of Flows lies from off on in block b. -/
def FlowsAt (w : World) (b off : Nat) (xs : List (ByteArray × Int)) : Prop :=
  ∀ j f, xs[j]? = some f → w.cell? ⟨b, off + j * 2, none⟩ = some (.string f.1) ∧ w.cell? ⟨b, off + j * 2 + 1, none⟩ = some (.int .i64 f.2)

theorem FlowsAt.turned {w w' : World} {b off : Nat} {xs : List (ByteArray × Int)} {S : Nat → Prop} (h : FlowsAt w b off xs) (t : Turn S w w') (hb : b < w.heap.size) (hn : ¬ S b) : FlowsAt w' b off xs :=
  fun j f hf => ⟨(t.cell (a := ⟨b, off + j * 2, none⟩) hb hn).trans (h j f hf).1, (t.cell (a := ⟨b, off + j * 2 + 1, none⟩) hb hn).trans (h j f hf).2⟩

/-- Write, told once for all its cases. -/
theorem write_any {w : World} {p : Nat} {B : ByteArray} (h : PipeIs w p B 1 1) (s : ByteArray) (hs : s.size ≤ 60) (hB : B.size ≤ 16) :
    Calls Tryd.prog 11 #[.pointer (some ⟨p, 0, none⟩), .string s] w fun e w' => ∃ (n : Nat) (er : Value), e = .returned (.tuple #[.int .i64 n, er]) ∧ PipeIs w' p (B ++ s.extract 0 n) 1 1 ∧ Turn (fun k => k = p) w w' ∧ n ≤ s.size ∧ (B ++ s.extract 0 n).size ≤ 16 ∧
      ((er = .nilIface ∧ 0 < n) ∨ (er = .nilIface ∧ n = 0 ∧ s.size = 0) ∨ (er = .iface 34 (.int .i64 12) ∧ n = 0 ∧ (B ++ s.extract 0 n).size = 16)) := by
  have e0 : B ++ s.extract 0 0 = B := by rw [ext_none]; simp
  by_cases h1 : s.size = 0
  · refine (write_empty h (by decide) s h1).mono ?_
    rintro e w' ⟨rfl, rfl⟩
    exact ⟨0, _, rfl, by rw [e0]; exact h, Turn.refl _ _, Nat.zero_le _, by rw [e0]; exact hB, .inr (.inl ⟨rfl, rfl, h1⟩)⟩
  · by_cases h2 : B.size < 16
    · refine (write_some h (by decide) s (by omega) (by omega) h2 _ rfl).mono ?_
      rintro e w' ⟨rfl, p1, t1⟩
      exact ⟨_, _, rfl, p1, t1, by omega, by simp; omega, .inl ⟨rfl, by omega⟩⟩
    · refine (write_full h (by decide) s (by omega) (by omega) (by omega)).mono ?_
      rintro e w' ⟨rfl, rfl⟩
      exact ⟨0, _, rfl, by rw [e0]; exact h, Turn.refl _ _, Nat.zero_le _, by rw [e0]; exact hB, .inr (.inr ⟨rfl, rfl, by rw [e0]; omega⟩)⟩

/-- Read, told once for all its cases. -/
theorem read_any {w : World} {p : Nat} {B : ByteArray} {e1 : Int} (h : PipeIs w p B 1 e1) (he : 0 ≤ e1) (n : Int) (hn : 0 ≤ n) (hB : B.size ≤ 16) :
    Calls Tryd.prog 14 #[.pointer (some ⟨p, 0, none⟩), .int .i64 n] w fun e w' => ∃ (t B' : ByteArray) (er : Value), e = .returned (.tuple #[.string t, er]) ∧ PipeIs w' p B' 1 e1 ∧ Turn (fun k => k = p) w w' ∧ B = t ++ B' ∧ (t.size : Int) ≤ n ∧
      (er = .nilIface ∨ (er = .iface 34 (.int .i64 8) ∧ t = ByteArray.empty ∧ B'.size = 0)) := by
  by_cases h1 : n = 0 ∨ 0 < B.size ∨ e1 = 0
  · refine (read_some h n hn (by omega) h1 _ rfl).mono ?_
    rintro e w' ⟨rfl, p1, t1⟩
    refine ⟨_, _, _, rfl, p1, t1, ?_, by simp; omega, .inl rfl⟩
    rw [ByteArray.extract_append_extract]
    simp
  · refine (read_none h n (by omega) (by omega) (by omega)).mono ?_
    rintro e w' ⟨rfl, rfl⟩
    exact ⟨_, B, _, rfl, h, Turn.refl _ _, by simp, by simpa using hn, .inr ⟨rfl, rfl, by omega⟩⟩

set_option maxRecDepth 100000 in
theorem order_many (a : Option Addr) (n cap : Nat) (w : World) (h : 60 < n) (hm : n ≤ 9223372036854775807) :
    Calls Tryd.prog 3 #[.slice a n cap] w fun e w' => e = .returned (.bool true) ∧ Turn (fun _ => False) w w' := by
  have h' : (60 : Int) < n := by omega
  go_enter Tryd.func3, Tryd.ntmps3
  go_wp2_with fail
  all_goals go_ret
  all_goals exact ⟨rfl, Turn.refl _ _⟩

set_option maxRecDepth 100000 in
set_option maxHeartbeats 4000000 in
theorem order_few (a : Option Addr) (xs : List (ByteArray × Int)) (cap : Nat) (W : World) (hL : Laid W) (hl : xs.length ≤ 60) (hc : xs ≠ [] → ∃ b off, a = some ⟨b, off, none⟩ ∧ FlowsAt W b off xs ∧ b < W.heap.size) :
    Calls Tryd.prog 3 #[.slice a xs.length cap] W fun e w' => e = .returned (.bool true) ∧ Turn (fun _ => False) W w' := by
  have HC := hid hc
  have HL := hid hL
  have hl' : (xs.length : Int) ≤ 60 := by omega
  clear hc hL
  go_enter Tryd.func3, Tryd.ntmps3
  go_wp2_with fail
  refine (piped_any W).mono ?_
  rintro e w0 ⟨rfl, t0⟩
  have hp : PipeIs (w0.alloc (.cells #[.string ByteArray.empty, .int .i64 0, .int .i64 0] 26)) w0.heap.size ByteArray.empty 0 0 := ⟨by simp, by simp, by simp, by simp⟩
  have T0 : Turn (fun _ => False) W (w0.alloc (.cells #[.string ByteArray.empty, .int .i64 0, .int .i64 0] 26)) := t0.alloc _
  have hpb : W.heap.size ≤ w0.heap.size := t0.size
  have HP := hid hp
  have HT := hid T0
  clear hp T0 t0
  go_wp2_with fail
  refine (open2 HP.out (by decide) (by decide)).mono ?_
  rintro e w1 ⟨rfl, p1, t1⟩
  have HP1 := hid p1
  have HT1 := hid (HT.out.trans' t1 (fun k hk e => by omega))
  clear p1 t1 HP HT
  go_wp2_with fail
  refine (open3 HP1.out (by decide) (by decide)).mono ?_
  rintro e w2 ⟨rfl, p2, t2⟩
  have HP2 : Hid (PipeIs w2 w0.heap.size ByteArray.empty 1 1) := hid p2
  have HT2 := hid (HT1.out.trans' t2 (fun k hk e => by omega))
  clear p2 t2 HP1 HT1
  go_wp2_with fail
  go_loopw [4, 5, 6] (fun vi vo i wr => ∃ (j : Nat) (O B : ByteArray), j ≤ xs.length ∧ vi = .string (O ++ B) ∧ vo = .string O ∧ i = .int .i64 j ∧ B.size ≤ 16 ∧ O.size + B.size ≤ 60 * j ∧ PipeIs wr w0.heap.size B 1 1 ∧ Turn (fun _ => False) W wr) (fun _ _ i _ => xs.length - (intOf i).toNat)
  case atStart => exact ⟨0, ByteArray.empty, ByteArray.empty, Nat.zero_le _, rfl, rfl, rfl, by decide, by decide, HP2.out, HT2.out⟩
  case round =>
    clear HP2 HT2
    obtain ⟨j, O, B, hj, rfl, rfl, rfl, hB, hI, hP, hT⟩ := hrel
    have HP := hid hP
    have HT := hid hT
    clear hP hT
    by_cases hlt : j < xs.length
    · obtain ⟨f, hf⟩ : ∃ f, xs[j]? = some f := ⟨_, List.getElem?_eq_getElem hlt⟩
      obtain ⟨b, off, rfl, hF, hb⟩ := HC.out (by rintro rfl; simp at hlt)
      obtain ⟨s, m⟩ := f
      obtain ⟨d0, d1⟩ := hF.turned HT.out hb id j _ hf
      simp only at d0 d1
      clear hF hf
      by_cases hbig : 60 < s.size
      · have hbig' : (60 : Int) < s.size := by omega
        go_wp2_with fail
        all_goals go_ret
        all_goals exact ⟨rfl, HT.out.alloc _⟩
      · have hbig' : (s.size : Int) ≤ 60 := by omega
        have hne : wr.heap.size ≠ w0.heap.size := Nat.ne_of_gt HP.out.lt
        have e0 : (wr.alloc (.cells #[.string s, .int .i64 m] 31)).cell? ⟨wr.heap.size, 0, none⟩ = some (.string s) := by simp
        have e1 : (wr.alloc (.cells #[.string s, .int .i64 m] 31)).cell? ⟨wr.heap.size, 1, none⟩ = some (.int .i64 m) := by simp
        have HE0 := hid e0
        have HE1 := hid e1
        have HP1 := hid (HP.out.turned (S := fun _ => False) ((Turn.refl _ _).alloc (.cells #[.string s, .int .i64 m] 31)) id)
        have HT1 := hid (HT.out.alloc (.cells #[.string s, .int .i64 m] 31))
        clear e0 e1
        go_wp2_with fail
        refine (write_any HP1.out s (by omega) hB).mono ?_
        rintro e w3 ⟨n, er, rfl, p3, t3, hns, hB3, hcase⟩
        have e0 := (t3.cell (a := ⟨wr.heap.size, 0, none⟩) (lt_of_cell HE0.out) hne).trans HE0.out
        have e1 := (t3.cell (a := ⟨wr.heap.size, 1, none⟩) (lt_of_cell HE1.out) hne).trans HE1.out
        have HP3 := hid p3
        have HT3 := hid (HT1.out.trans' t3 (fun k hk e => by omega))
        have HB3 := hid hB3
        have hns' : (n : Int) ≤ s.size := by omega
        clear p3 t3 HP HT HP1 HT1 HE0 HE1 d0 d1 hB3 hns
        obtain ⟨K, hK⟩ : ∃ K, pk m 24 = K := ⟨_, rfl⟩
        have hK0 : 0 ≤ K := by rw [← hK]; exact pk_nonneg _ _ (by decide)
        have hK1 : K < 24 := by rw [← hK]; exact pk_lt _ _ (by decide)
        have hPk : ∀ w, Calls Tryd.prog 15 #[.int .i64 m, .int .i64 24] w fun e w' => e = .returned (.int .i64 K) ∧ w = w' := fun w => by rw [← hK]; exact pick_any m 24 w (by decide) (by decide)
        clear hK
        have hOB : O.size + B.size ≤ 3600 := by omega
        rcases hcase with ⟨rfl, hn0⟩ | ⟨rfl, rfl, hs0⟩ | ⟨rfl, rfl, hB16⟩
        · have hn0' : (0 : Int) < n := by omega
          go_wp2_with fail
          refine (hPk w3).mono ?_
          rintro e w6 ⟨rfl, rfl⟩
          go_wp2_with fail
          refine (read_any HP3.out (by decide) K hK0 HB3.out).mono ?_
          rintro e w7 ⟨t, B', er, rfl, p7, t7, hEq, hts, hcase2⟩
          have e17 := (t7.cell (a := ⟨wr.heap.size, 1, none⟩) (lt_of_cell e1) hne).trans e1
          have HP7 := hid p7
          have HT7 := hid (HT3.out.trans' t7 (fun k hk e => by omega))
          have hsz : B.size + n = t.size + B'.size := by have := congrArg ByteArray.size hEq; simp only [ByteArray.size_append, ByteArray.size_extract] at this; omega
          have hB7 : B'.size ≤ 16 := by have h := HB3.out; first | omega | (simp only [ByteArray.size_append, ByteArray.size_extract] at h; omega)
          have HEq := hid hEq
          have HSZ := hid hsz
          clear p7 t7 hEq e0 e1
          rcases hcase2 with rfl | ⟨rfl, rfl, hB0⟩
          · have hbne : ((B'.size : Int) != (O.size : Int) + B.size + n - ((O.size : Int) + t.size)) = false := by simp; omega
            clear hsz
            go_wp2_with fail
            refine (hPk _).mono ?_
            rintro e w8 ⟨rfl, rfl⟩
            go_wp2_with fail
            all_goals first | (exfalso; omega) | skip
            refine (len_is HP7.out).mono ?_
            rintro e w9 ⟨rfl, rfl⟩
            go_wp2_with fail
            all_goals first | (exfalso; omega) | skip
            refine (len_is HP7.out).mono ?_
            rintro e w10 ⟨rfl, rfl⟩
            go_wp2_with fail
            all_goals first | (exfalso; omega) | skip
            go_roundw
            case rel => exact ⟨j + 1, O ++ t, B', by omega, congrArg Value.string (by rw [ByteArray.append_assoc, HEq.out, ByteArray.append_assoc]), rfl, by go_num, hB7, by have := HSZ.out; simp only [ByteArray.size_append]; omega, HP7.out, HT7.out⟩
            case measure => simp [intOf]; omega
          · exfalso; have h0 : ByteArray.empty.size = 0 := rfl;  omega
        · obtain rfl := empty_of hs0
          have hN : B ++ ByteArray.empty.extract 0 0 = B := by simp
          rw [hN] at HP3 HB3
          clear hN
          go_wp2_with fail
          refine (hPk w3).mono ?_
          rintro e w6 ⟨rfl, rfl⟩
          go_wp2_with fail
          refine (read_any HP3.out (by decide) K hK0 HB3.out).mono ?_
          rintro e w7 ⟨t, B', er, rfl, p7, t7, hEq, hts, hcase2⟩
          have e17 := (t7.cell (a := ⟨wr.heap.size, 1, none⟩) (lt_of_cell e1) hne).trans e1
          have HP7 := hid p7
          have HT7 := hid (HT3.out.trans' t7 (fun k hk e => by omega))
          have hsz : B.size = t.size + B'.size := by have := congrArg ByteArray.size hEq; simp only [ByteArray.size_append] at this; omega
          have hB7 : B'.size ≤ 16 := by have h := HB3.out; first | omega | (simp only [ByteArray.size_append, ByteArray.size_extract] at h; omega)
          have HEq := hid hEq
          have HSZ := hid hsz
          clear p7 t7 hEq e0 e1
          rcases hcase2 with rfl | ⟨rfl, rfl, hB0⟩
          · have hbne : ((B'.size : Int) != (O.size : Int) + B.size - ((O.size : Int) + t.size)) = false := by simp; omega
            clear hsz
            go_wp2_with fail
            refine (hPk _).mono ?_
            rintro e w8 ⟨rfl, rfl⟩
            go_wp2_with fail
            all_goals first | (exfalso; omega) | skip
            refine (len_is HP7.out).mono ?_
            rintro e w9 ⟨rfl, rfl⟩
            go_wp2_with fail
            all_goals first | (exfalso; omega) | skip
            refine (len_is HP7.out).mono ?_
            rintro e w10 ⟨rfl, rfl⟩
            go_wp2_with fail
            all_goals first | (exfalso; omega) | skip
            go_roundw
            case rel => exact ⟨j + 1, O ++ t, B', by omega, congrArg Value.string (by rw [HEq.out, ByteArray.append_assoc]), rfl, by go_num, hB7, by have := HSZ.out; simp only [ByteArray.size_append]; omega, HP7.out, HT7.out⟩
            case measure => simp [intOf]; omega
          · have hbne : ((B'.size : Int) != (O.size : Int) + B.size - (O.size : Int)) = false := by have h0 : ByteArray.empty.size = 0 := rfl; simp; omega
            clear hsz
            go_wp2_with fail
            refine (tell_errno 8 w7 (HL.out.turned0 HT7.out)).mono ?_
            rintro e w8 ⟨rfl, t8⟩
            have e18 := (t8.cell (a := ⟨wr.heap.size, 1, none⟩) (lt_of_cell e17) id).trans e17
            have HP8 := hid (HP7.out.turned t8 id)
            have HT8 := hid (HT7.out.trans t8)
            clear t8 e17
            go_wp2_with fail
            refine (len_is HP8.out).mono ?_
            rintro e w9 ⟨rfl, rfl⟩
            rw [hB0]
            go_wp2_with fail
            all_goals first | (exfalso; omega) | skip
            refine (hPk _).mono ?_
            rintro e w8 ⟨rfl, rfl⟩
            go_wp2_with fail
            all_goals first | (exfalso; omega) | skip
            refine (len_is HP8.out).mono ?_
            rintro e w9 ⟨rfl, rfl⟩
            go_wp2_with fail
            all_goals first | (exfalso; omega) | skip
            refine (len_is HP8.out).mono ?_
            rintro e w10 ⟨rfl, rfl⟩
            go_wp2_with fail
            all_goals first | (exfalso; omega) | skip
            go_roundw
            case rel => exact ⟨j + 1, O, B', by omega, congrArg Value.string (by rw [HEq.out, ByteArray.empty_append]), rfl, by go_num, hB7, by have := HSZ.out; have h0 : ByteArray.empty.size = 0 := rfl; omega, HP8.out, HT8.out⟩
            case measure => simp [intOf]; omega
        · have hN : B ++ s.extract 0 0 = B := by rw [ext_none]; simp
          rw [hN] at HP3 HB3 hB16
          clear hN
          go_wp2_with fail
          refine (tell_errno 12 w3 (HL.out.turned0 HT3.out)).mono ?_
          rintro e w4 ⟨rfl, t4⟩
          replace e0 := (t4.cell (a := ⟨wr.heap.size, 0, none⟩) (lt_of_cell e0) id).trans e0
          replace e1 := (t4.cell (a := ⟨wr.heap.size, 1, none⟩) (lt_of_cell e1) id).trans e1
          have HP4 := hid (HP3.out.turned t4 id)
          have HT4 := hid (HT3.out.trans t4)
          clear t4 HP3 HT3
          go_wp2_with fail
          refine (len_is HP4.out).mono ?_
          rintro e w5 ⟨rfl, rfl⟩
          rw [hB16]
          have HB16 := hid hB16
          clear hB16
          go_wp2_with fail
          refine (hPk w4).mono ?_
          rintro e w6 ⟨rfl, rfl⟩
          go_wp2_with fail
          refine (read_any HP4.out (by decide) K hK0 HB3.out).mono ?_
          rintro e w7 ⟨t, B', er, rfl, p7, t7, hEq, hts, hcase2⟩
          have e17 := (t7.cell (a := ⟨wr.heap.size, 1, none⟩) (lt_of_cell e1) hne).trans e1
          have HP7 := hid p7
          have HT7 := hid (HT4.out.trans' t7 (fun k hk e => by omega))
          have hsz : B.size = t.size + B'.size := by have := congrArg ByteArray.size hEq; simp only [ByteArray.size_append] at this; omega
          have hB7 : B'.size ≤ 16 := by have h := HB3.out; first | omega | (simp only [ByteArray.size_append, ByteArray.size_extract] at h; omega)
          have HEq := hid hEq
          have HSZ := hid hsz
          clear p7 t7 hEq e0 e1
          rcases hcase2 with rfl | ⟨rfl, rfl, hB0⟩
          · have hbne : ((B'.size : Int) != (O.size : Int) + B.size - ((O.size : Int) + t.size)) = false := by simp; omega
            clear hsz
            go_wp2_with fail
            refine (hPk _).mono ?_
            rintro e w8 ⟨rfl, rfl⟩
            go_wp2_with fail
            all_goals first | (exfalso; omega) | skip
            refine (len_is HP7.out).mono ?_
            rintro e w9 ⟨rfl, rfl⟩
            go_wp2_with fail
            all_goals first | (exfalso; omega) | skip
            refine (len_is HP7.out).mono ?_
            rintro e w10 ⟨rfl, rfl⟩
            go_wp2_with fail
            all_goals first | (exfalso; omega) | skip
            go_roundw
            case rel => exact ⟨j + 1, O ++ t, B', by omega, congrArg Value.string (by rw [HEq.out, ByteArray.append_assoc]), rfl, by go_num, hB7, by have := HSZ.out; simp only [ByteArray.size_append]; omega, HP7.out, HT7.out⟩
            case measure => simp [intOf]; omega
          · exfalso; have h0 : ByteArray.empty.size = 0 := rfl; have h2 := HB16.out; omega
    · have hj' : j = xs.length := by omega
      subst hj'
      go_wp2_with fail
      refine (close3 HP.out (by decide) (by decide)).mono ?_
      rintro e w3 ⟨rfl, p3, t3⟩
      have HP3 : Hid (PipeIs w3 w0.heap.size B 1 0) := hid p3
      have HT3 := hid (HT.out.trans' t3 (fun k hk e => by omega))
      clear p3 t3 HP HT
      go_wp2_with fail
      refine (read_some HP3.out 100 (by decide) (by omega) (.inr (.inr rfl)) B.size (by omega)).mono ?_
      rintro e w4 ⟨rfl, p4, t4⟩
      rw [ext_end] at p4
      rw [ext_all]
      have HP4 := hid p4
      have HT4 := hid (HT3.out.trans' t4 (fun k hk e => by omega))
      clear p4 t4 HP3 HT3
      go_wp2_with fail
      refine (read_some HP4.out 100 (by decide) (by decide) (.inr (.inr rfl)) 0 (by decide)).mono ?_
      rintro e w5 ⟨rfl, p5, t5⟩
      rw [ext_all] at p5
      rw [ext_none]
      have HP5 := hid p5
      have HT5 := hid (HT4.out.trans' t5 (fun k hk e => by omega))
      clear p5 t5 HP4 HT4
      go_wp2_with fail
      refine (close2 HP5.out (by decide) (by decide)).mono ?_
      rintro e w6 ⟨rfl, p6, t6⟩
      have HP6 : Hid (PipeIs w6 w0.heap.size ByteArray.empty 0 0) := hid p6
      have HT6 := hid (HT5.out.trans' t6 (fun k hk e => by omega))
      clear p6 t6 HP5 HT5
      go_wp2_with fail
      refine (write_nobody HP6.out _).mono ?_
      rintro e w7 ⟨rfl, rfl⟩
      go_wp2_with fail
      refine (tell_errno 14 _ (HL.out.turned0 HT6.out)).mono ?_
      rintro e w8 ⟨rfl, t8⟩
      have HP8 := hid (HP6.out.turned t8 id)
      have HT8 := hid (HT6.out.trans t8)
      clear t8 HP6 HT6
      go_wp2_with fail
      refine (close3_none HP8.out).mono ?_
      rintro e w9 ⟨rfl, rfl⟩
      go_wp2_with fail
      all_goals go_ret
      all_goals exact ⟨rfl, HT8.out⟩
end Go.Proofs.YtiohpmcedfbcgaaDoor
