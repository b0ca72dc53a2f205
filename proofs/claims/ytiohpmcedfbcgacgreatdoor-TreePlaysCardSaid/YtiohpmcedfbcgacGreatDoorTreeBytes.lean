/- Several texts of ours in one, in build order (TreeBytes, TreeCut). Conditions: each theorem's own premises. -/
import Derived.Test.YtiohpmcedfbcgacGreatDoorTreeHold
import Derived.Test.YtiohpmcedfbcgacGreatDoorRepeat
import Derived.Deep.QuietTactic
import Derived.BigQuiet
/- Package tree: Read, Cut, Write. Conditions: each theorem's own premises. -/
namespace Go.Proofs.YtiohpmcedfbcgacGreatDoor
open Go.RowKit
set_option linter.unusedVariables false

section
variable {w w' w1 w2 : World} {tb nm b d : Nat} {T T1 T2 : PT} {B D : Int → Nat} {F : Nat → Prop} {p p' : PN} {n : Int}
/-- So many bytes from a place on, at most. -/
def readB (x : ByteArray) (at' many : Nat) : ByteArray := x.extract (min at' x.size) (min at' x.size + min many (x.size - min at' x.size))
def readE (T : PT) (n at' many : Int) : Int := if fileE T n ≠ 0 then fileE T n else if at' < 0 ∨ many < 0 then 2 else 0
def dataT (T : PT) (n : Int) : ByteArray := (mget T n).elim ByteArray.empty (·.data)
def readT (T : PT) (n at' many : Int) : ByteArray := if readE T n at' many = 0 then readB (dataT T n) at'.toNat many.toNat else ByteArray.empty
set_option maxHeartbeats 2000000 in
set_option maxRecDepth 100000 in
theorem read_is (h : TreeIs w tb T F) (n at' many : Int) :
    Calls Tryz.prog 29 #[.pointer (some ⟨tb, 0, none⟩), .int .i64 n, .int .i64 at', .int .i64 many] w fun e w' => e = .returned (.tuple #[.string (readT T n at' many), TErr (readE T n at' many)]) ∧ Turn (fun _ => False) w w' := by
  obtain ⟨nm, B, D, hin, hok, rfl⟩ := h
  have H := hid hin
  have HOk := hid hok
  have HF := hid (file_is hin n)
  clear hin hok
  go_enter Tryz.func29, Tryz.ntmps29
  go_wp2_with fail
  refine HF.out.mono ?_
  rintro e w1 ⟨⟨hz, rfl⟩ | ⟨p, hn, hd, hz, rfl⟩, hw⟩ <;> subst w1
  · have te := TErr_of hz
    have hr : readE T n at' many = fileE T n := if_pos hz
    have hr2 : readT T n at' many = ByteArray.empty := if_neg (by rw [hr]; exact hz)
    clear hz
    go_wp2_with fail
    go_returns
    rw [hr2, hr]
    exact ⟨by rw [te]; rfl, Turn.refl _ _⟩
  · have c1 := (H.out.nd n p hn).c1
    have hdt : dataT T n = p.data := by unfold dataT; rw [hn]; rfl
    have hsz := HOk.out.data n p hn
    have h00 : ¬ (fileE T n ≠ 0) := fun e => e hz
    clear hn hd hz
    by_cases ha : at' < 0
    · have hr : readE T n at' many = 2 := by unfold readE; rw [if_neg h00, if_pos (.inl ha)]
      have hr2 : readT T n at' many = ByteArray.empty := if_neg (by rw [hr]; decide)
      clear h00 hdt
      go_wp2_with fail
      go_returns
      rw [hr2, hr]
      exact ⟨rfl, Turn.refl _ _⟩
    · by_cases hm : many < 0
      · have hr : readE T n at' many = 2 := by unfold readE; rw [if_neg h00, if_pos (.inr hm)]
        have hr2 : readT T n at' many = ByteArray.empty := if_neg (by rw [hr]; decide)
        clear h00 hdt
        go_wp2_with fail
        go_returns
        rw [hr2, hr]
        exact ⟨rfl, Turn.refl _ _⟩
      · have hr : readE T n at' many = 0 := by unfold readE; rw [if_neg h00, if_neg (by omega)]
        have hr2 : readT T n at' many = readB p.data at'.toNat many.toNat := by unfold readT; rw [if_pos hr, hdt]
        clear h00 hdt
        obtain ⟨A, rfl⟩ : ∃ A : Nat, at' = A := ⟨at'.toNat, by omega⟩
        obtain ⟨M, rfl⟩ : ∃ M : Nat, many = M := ⟨many.toNat, by omega⟩
        obtain ⟨x, hx⟩ : ∃ x, p.data = x := ⟨_, rfl⟩
        rw [hx] at c1 hsz hr2
        clear hx
        go_wp2_with fail
        obtain ⟨a, haa⟩ : ∃ a : Nat, min A x.size = a := ⟨_, rfl⟩
        obtain ⟨r, hrr⟩ : ∃ r : Nat, x.size - a = r := ⟨_, rfl⟩
        obtain ⟨k, hkk⟩ : ∃ k : Nat, min M r = k := ⟨_, rfl⟩
        obtain ⟨hi, hhi⟩ : ∃ hi : Nat, a + k = hi := ⟨_, rfl⟩
        have e1 : min (A : Int) (x.size : Int) = a := by omega
        have q1 : IntKind.i64.wrap ((x.size : Int) - a) = r := by rw [IntWalk.i64_in _ (by omega)]; omega
        have q2 : min (M : Int) (r : Int) = k := by omega
        have q3 : IntKind.i64.wrap ((a : Int) + k) = hi := by rw [IntWalk.i64_in _ (by omega)]; omega
        have q4 : a ≤ hi := by omega
        have q5 : hi ≤ x.size := by omega
        have HFin : Hid (x.extract a hi = readT T n A M) := hid (by
          rw [hr2]
          unfold readB
          simp only [Int.toNat_natCast]
          rw [haa, hrr, hkk, hhi])
        simp only [e1]
        clear hr2 haa hrr hkk hhi e1
        go_quiet (fail)
        go_wp2_with fail
        go_returns
        rw [hr]
        exact ⟨by rw [HFin.out]; rfl, (Turn.refl _ _).drewN _⟩
theorem TreeTo.also {w3 : World} (h : TreeTo tb F w w1 T1) (t : Turn (fun _ => False) w1 w3) : TreeTo tb F w w3 T1 := by
  obtain ⟨F', a, b, c⟩ := h
  exact ⟨F', a.turned t (fun _ _ => id), b.trans' t (fun k _ h => h.elim), c⟩
def setDataT (T : PT) (n : Int) (x : ByteArray) : PT := (mget T n).elim T fun p => mput T n { p with data := x }
theorem setDataT_is (hn : mget T n = some p) (x : ByteArray) : setDataT T n x = mput T n { p with data := x } := by unfold setDataT; rw [hn]; rfl
def writeE (T : PT) (n at' : Int) (s : ByteArray) : Int := if fileE T n ≠ 0 then fileE T n else if at' < 0 then 2 else if 200 < s.size ∨ 200 - (s.size : Int) < at' then 4 else 0
def writeT (T : PT) (n at' : Int) (s : ByteArray) : PT := if writeE T n at' s = 0 ∧ s.size ≠ 0 then setDataT T n (writeB (dataT T n) at'.toNat s) else T
theorem write_nums {x s y : ByteArray} {a : Nat} (hy : padB x a = y) (hsz : x.size ≤ 200) (hl : s.size ≤ 200) (hl2 : a + s.size ≤ 200) :
    ∃ hi lo : Nat, IntKind.i64.wrap ((a : Int) + s.size) = hi ∧ wrap64 ((a : Int) + s.size) = hi ∧ min (hi : Int) (y.size : Int) = lo ∧ a ≤ y.size ∧ lo ≤ y.size ∧ (writeB x a s).size ≤ 200 ∧ y.extract 0 a ++ s ++ y.extract lo y.size = writeB x a s ∧ a + s.size ≤ 1000 ∧ a + s.size + (y.size - lo) ≤ 1000 := by
  have hys := padB_size x a
  rw [hy] at hys
  have q3 : a ≤ y.size := by rw [hys]; exact Nat.le_max_right _ _
  have hy2 : y.size ≤ 200 := by rw [hys]; exact Nat.max_le.2 ⟨hsz, by omega⟩
  clear hys
  refine ⟨a + s.size, min (a + s.size) y.size, by rw [IntWalk.i64_in _ (by omega)]; omega, by rw [IntWalk.wrap64_in _ (by omega)]; omega, by omega, q3, Nat.min_le_right _ _, ?_, ?_, ?_, ?_⟩
  · rw [writeB_size]; exact Nat.max_le.2 ⟨Nat.max_le.2 ⟨hsz, by omega⟩, hl2⟩
  · unfold writeB putB; rw [hy]
  · omega
  · omega
set_option maxHeartbeats 4000000 in
set_option maxRecDepth 100000 in
theorem write_is (h : TreeIs w tb T F) (n at' : Int) (s : ByteArray) (hss : s.size ≤ 4294967281) :
    Calls Tryz.prog 28 #[.pointer (some ⟨tb, 0, none⟩), .int .i64 n, .int .i64 at', .string s] w fun e w' => e = .returned (TErr (writeE T n at' s)) ∧ TreeTo tb F w w' (writeT T n at' s) := by
  have HI := hid h
  obtain ⟨nm, B, D, hin, hok, rfl⟩ := h
  have H := hid hin
  have HOk := hid hok
  have HF := hid (file_is hin n)
  clear hin hok
  go_enter Tryz.func28, Tryz.ntmps28
  go_wp2_with fail
  refine HF.out.mono ?_
  rintro e w1 ⟨⟨hz, rfl⟩ | ⟨p, hn, hd, hz, rfl⟩, hw⟩ <;> subst w1
  · have te := TErr_of hz
    have hr : writeE T n at' s = fileE T n := if_pos hz
    have hr2 : writeT T n at' s = T := if_neg (fun e => by rw [hr] at e; exact hz e.1)
    clear hz hss
    go_wp2_with fail
    go_returns
    rw [hr2, hr]
    exact ⟨congrArg Ending.returned te.symm, TreeTo.same HI.out (Turn.refl _ _)⟩
  · have nd := H.out.nd n p hn
    have c1 := nd.c1
    have f1 := nd.fz 1
    have hdt : dataT T n = p.data := by unfold dataT; rw [hn]; rfl
    have hsz := HOk.out.data n p hn
    have h00 : ¬ (fileE T n ≠ 0) := fun e => e hz
    have HN := hid hn
    clear hn hz nd
    by_cases ha : at' < 0
    · have hr : writeE T n at' s = 2 := by unfold writeE; rw [if_neg h00, if_pos ha]
      have hr2 : writeT T n at' s = T := if_neg (fun e => by rw [hr] at e; cases e.1)
      clear h00 hdt hss
      go_wp2_with fail
      go_returns
      rw [hr2, hr]
      exact ⟨rfl, TreeTo.same HI.out (Turn.refl _ _)⟩
    · obtain ⟨a, rfl⟩ : ∃ a : Nat, at' = a := ⟨at'.toNat, by omega⟩
      by_cases hl : 200 < s.size
      · have hr : writeE T n a s = 4 := by unfold writeE; rw [if_neg h00, if_neg ha, if_pos (.inl hl)]
        have hr2 : writeT T n a s = T := if_neg (fun e => by rw [hr] at e; cases e.1)
        have hl' : (200 : Int) < s.size := by omega
        clear h00 hdt hss
        go_wp2_with fail
        go_returns
        rw [hr2, hr]
        exact ⟨rfl, TreeTo.same HI.out (Turn.refl _ _)⟩
      · have hl' : ¬ (200 : Int) < s.size := by omega
        have hw0 : wrap64 (200 - (s.size : Int)) = 200 - s.size := IntWalk.wrap64_in _ (by omega)
        by_cases hl2 : 200 - (s.size : Int) < a
        · have hr : writeE T n a s = 4 := by unfold writeE; rw [if_neg h00, if_neg ha, if_pos (.inr hl2)]
          have hr2 : writeT T n a s = T := if_neg (fun e => by rw [hr] at e; cases e.1)
          clear h00 hdt hss
          go_wp2_with fail
          go_returns
          rw [hr2, hr]
          exact ⟨rfl, TreeTo.same HI.out (Turn.refl _ _)⟩
        · have hr : writeE T n a s = 0 := by unfold writeE; rw [if_neg h00, if_neg ha, if_neg (fun e => e.elim hl hl2)]
          by_cases h0 : s.size = 0
          · have hr2 : writeT T n a s = T := if_neg (fun e => e.2 h0)
            have he : s.toList.isEmpty = true := by rw [toList_empty]; exact decide_eq_true h0
            clear h00 hdt hss
            go_wp2_with fail
            go_returns
            rw [hr2, hr]
            exact ⟨rfl, TreeTo.same HI.out (Turn.refl _ _)⟩
          · have he : s.toList.isEmpty = false := by rw [toList_empty]; exact decide_eq_false h0
            obtain ⟨x, hx⟩ : ∃ x, p.data = x := ⟨_, rfl⟩
            have hr2 : writeT T n a s = setDataT T n (writeB x a s) := by unfold writeT; rw [if_pos ⟨hr, h0⟩, hdt, hx]; rfl
            rw [hx] at c1 hsz
            have HR2 := hid hr2
            clear h00 hdt hss hx hr2 h0
            go_upto_if 48 with fail
            obtain ⟨y, hy⟩ : ∃ y, padB x a = y := ⟨_, rfl⟩
            have HY := hid hy
            have hys := padB_size x a
            rw [hy] at hys
            have HYs := hid hys
            have HNm := hid (write_nums (s := s) hy hsz (by omega) (by omega))
            clear hy hys
            go_cut [11] (fun v wx => v = .string y ∧ Hid (Turn (fun _ => False) w wx))
            case first =>
              by_cases hp : x.size < a
              · have hp' : (x.size : Int) < a := by omega
                have hsub : wrap64 ((a : Int) - x.size) = ((a - x.size : Nat) : Int) := by rw [IntWalk.wrap64_in _ (by omega)]; omega
                have hRp := repeat_is (a - x.size) (by omega) w
                have hcast : ((a - x.size : Nat) : Int) = (a : Int) - x.size := by omega
                have hyy : y = x ++ zerosB (a - x.size) := by rw [← HY.out]; exact if_pos hp
                have HYY := hid hyy
                obtain ⟨k, hk⟩ : ∃ k, a - x.size = k := ⟨_, rfl⟩
                rw [hcast] at hRp
                rw [hk] at hRp HYY
                have HRp := hid hRp
                have hzs : x.size + (zerosB k).size ≤ 200 := by rw [zerosB_size, ← hk]; omega
                clear hyy hp hk hsub hcast hRp
                go_wp2_with fail
                refine HRp.out.mono ?_
                rintro e w2 ⟨rfl, t2⟩
                have HT2 := hid t2
                clear t2
                go_wp2_with fail
                go_meet
                exact ⟨by rw [HYY.out], HT2⟩
              · have hp' : ¬ (x.size : Int) < a := by omega
                have hyy : y = x := by rw [← HY.out]; exact if_neg hp
                clear hp
                go_wp2_with fail
                go_meet
                exact ⟨by rw [hyy], hid (Turn.refl _ _)⟩
            case rest =>
              obtain ⟨rfl, hT⟩ := hcut
              have c1' := (hT.out.cell (a := ⟨B n, 1, none⟩) (lt_of_cell c1) id).trans c1
              have f1' := (hT.out.frozen (a := ⟨B n, 1, none⟩) (lt_of_cell c1) id).trans f1
              obtain ⟨hi, lo, q1, q1', q2, q3, q4, hle, hfin, hO, hO2⟩ := HNm.out
              have HLe := hid hle
              have HFin := hid hfin
              clear c1 f1 hle hfin hsz hw0 hl hl2 hl' ha HNm HYs
              go_wp2_with fail
              go_region
              all_goals
                go_wp2_with fail
                go_returns
                rw [HR2.out, hr, HFin.out]
                refine ⟨rfl, ?_⟩
                rw [setDataT_is HN.out]
                exact ((H.out.turned hT.out (fun _ _ => id)).to (HOk.out.upd (p' := { p with data := writeB x a s }) HN.out rfl rfl rfl HLe.out) HN.out rfl (((H.out.turned hT.out (fun _ _ => id)).nd n p HN.out).setData (H.out.apart HN.out) _) ((Turn.refl _ _).setCell _ _ (fun _ => .inl rfl))).also (Turn.refl _ _).drew |>.before hT.out
end
end Go.Proofs.YtiohpmcedfbcgacGreatDoor
/- Package tree: Size, Cut. Conditions: each theorem's own premises. -/
namespace Go.Proofs.YtiohpmcedfbcgacGreatDoor
open Go.RowKit
set_option linter.unusedVariables false

section
variable {w w' w1 w2 : World} {tb nm b d : Nat} {T T1 T2 : PT} {B D : Int → Nat} {F : Nat → Prop} {p p' : PN} {n : Int}
def sizeT (T : PT) (n : Int) : Int := (mget T n).elim 0 fun p => if p.isDir then 0 else (p.data.size : Int)
theorem sizeT_err (h : fileE T n ≠ 0) : sizeT T n = 0 := by
  unfold sizeT
  cases hn : mget T n with
  | none => rfl
  | some p =>
    cases hd : p.isDir with
    | true => show (if p.isDir then _ else _) = _; rw [hd]; rfl
    | false => exact absurd (fileE_file hn hd) h
theorem sizeT_file (hn : mget T n = some p) (hd : p.isDir = false) : sizeT T n = p.data.size := by
  unfold sizeT; rw [hn]; show (if p.isDir then _ else _) = _; rw [hd]; rfl
set_option maxRecDepth 100000 in
theorem size_is (h : TreeIs w tb T F) (n : Int) :
    Calls Tryz.prog 31 #[.pointer (some ⟨tb, 0, none⟩), .int .i64 n] w fun e w' => e = .returned (.tuple #[.int .i64 (sizeT T n), TErr (fileE T n)]) ∧ w' = w := by
  obtain ⟨nm, B, D, hin, hok, rfl⟩ := h
  have H := hid hin
  have HF := hid (file_is hin n)
  clear hin hok
  go_enter Tryz.func31, Tryz.ntmps31
  go_wp2_with fail
  refine HF.out.mono ?_
  rintro e w1 ⟨⟨hz, rfl⟩ | ⟨p, hn, hd, hz, rfl⟩, hw⟩ <;> subst w1
  · have te := TErr_of hz
    have HT := hid (sizeT_err hz)
    clear hz
    go_wp2_with fail
    go_returns
    rw [HT.out]
    exact ⟨by rw [te]; rfl, rfl⟩
  · have c1 := (H.out.nd n p hn).c1
    have HT := hid (sizeT_file hn hd)
    have HZ := hid hz
    clear hn hd hz
    go_wp2_with fail
    go_returns
    rw [HT.out, HZ.out]
    exact ⟨rfl, rfl⟩
def cutE (T : PT) (n size : Int) : Int := if fileE T n ≠ 0 then fileE T n else if size < 0 then 2 else 0
def cutT (T : PT) (n size : Int) : PT := if cutE T n size = 0 then setDataT T n ((dataT T n).extract 0 (min size.toNat (dataT T n).size)) else T
set_option maxHeartbeats 2000000 in
set_option maxRecDepth 100000 in
theorem cut_is (h : TreeIs w tb T F) (n size : Int) :
    Calls Tryz.prog 30 #[.pointer (some ⟨tb, 0, none⟩), .int .i64 n, .int .i64 size] w fun e w' => e = .returned (TErr (cutE T n size)) ∧ TreeTo tb F w w' (cutT T n size) := by
  have HI := hid h
  obtain ⟨nm, B, D, hin, hok, rfl⟩ := h
  have H := hid hin
  have HOk := hid hok
  have HF := hid (file_is hin n)
  clear hin hok
  go_enter Tryz.func30, Tryz.ntmps30
  go_wp2_with fail
  refine HF.out.mono ?_
  rintro e w1 ⟨⟨hz, rfl⟩ | ⟨p, hn, hd, hz, rfl⟩, hw⟩ <;> subst w1
  · have te := TErr_of hz
    have hr : cutE T n size = fileE T n := if_pos hz
    have hr2 : cutT T n size = T := if_neg (by rw [hr]; exact hz)
    clear hz
    go_wp2_with fail
    go_returns
    rw [hr2, hr]
    exact ⟨congrArg Ending.returned te.symm, TreeTo.same HI.out (Turn.refl _ _)⟩
  · have nd := H.out.nd n p hn
    have c1 := nd.c1
    have f1 := nd.fz 1
    have hdt : dataT T n = p.data := by unfold dataT; rw [hn]; rfl
    have hsz := HOk.out.data n p hn
    have h00 : ¬ (fileE T n ≠ 0) := fun e => e hz
    have HN := hid hn
    clear hn hz nd
    by_cases ha : size < 0
    · have hr : cutE T n size = 2 := by unfold cutE; rw [if_neg h00, if_pos ha]
      have hr2 : cutT T n size = T := if_neg (by rw [hr]; decide)
      clear h00 hdt
      go_wp2_with fail
      go_returns
      rw [hr2, hr]
      exact ⟨rfl, TreeTo.same HI.out (Turn.refl _ _)⟩
    · have hr : cutE T n size = 0 := by unfold cutE; rw [if_neg h00, if_neg ha]
      have hr2 : cutT T n size = setDataT T n (p.data.extract 0 (min size.toNat p.data.size)) := by unfold cutT; rw [if_pos hr, hdt]
      clear h00 hdt
      obtain ⟨S, rfl⟩ : ∃ S : Nat, size = S := ⟨size.toNat, by omega⟩
      obtain ⟨x, hx⟩ : ∃ x, p.data = x := ⟨_, rfl⟩
      rw [hx] at c1 hsz hr2
      have HX := hid hx
      obtain ⟨hi, hhi⟩ : ∃ hi : Nat, min S x.size = hi := ⟨_, rfl⟩
      have q2 : min (S : Int) (x.size : Int) = hi := by omega
      have q5 : hi ≤ x.size := by omega
      have HFin : Hid (cutT T n S = setDataT T n (x.extract 0 hi)) := hid (by rw [hr2]; simp only [Int.toNat_natCast]; rw [hhi])
      clear hr2 hhi hx
      go_wp2_with fail
      go_region
      all_goals
        go_wp2_with fail
        go_returns
        rw [HFin.out, hr]
        refine ⟨rfl, ?_⟩
        have hle : (x.extract 0 hi).size ≤ 200 := by rw [extract_size x 0 hi q5]; omega
        rw [setDataT_is HN.out]
        exact (H.out.to (HOk.out.upd (p' := { p with data := x.extract 0 hi }) HN.out rfl rfl rfl hle) HN.out rfl ((H.out.nd n p HN.out).setData (H.out.apart HN.out) _) ((Turn.refl _ _).setCell _ _ (fun _ => .inl rfl))).also (Turn.refl _ _).drew
end
end Go.Proofs.YtiohpmcedfbcgacGreatDoor
