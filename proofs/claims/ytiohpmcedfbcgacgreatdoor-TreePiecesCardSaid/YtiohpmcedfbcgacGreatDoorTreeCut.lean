/- Package tree: Size, Cut. Conditions: each theorem's own premises. -/
import Derived.Test.YtiohpmcedfbcgacGreatDoorTreeBytes
namespace Go.Proofs.YtiohpmcedfbcgacGreatDoor
open Go.RowKit
set_option linter.unusedVariables false

section
variable {w w' w1 w2 : World} {tb nm b d : Nat} {T T1 T2 : PT} {B D : Int → Nat} {F : Nat → Prop} {p p' : PN} {n : Int}
def sizeT (T : PT) (n : Int) : Int := (mget T n).elim 0 fun p => if p.isDir then 0 else (p.data.size : Int)
theorem sizeT_err (h : fileE T n ≠ 0) : sizeT T n = 0 := by
  unfold sizeT
  cases hn : mget T n with
  | none => rfl
  | some p =>
    cases hd : p.isDir with
    | true => show (if p.isDir then _ else _) = _; rw [hd]; rfl
    | false => exact absurd (fileE_file hn hd) h
theorem sizeT_file (hn : mget T n = some p) (hd : p.isDir = false) : sizeT T n = p.data.size := by
  unfold sizeT; rw [hn]; show (if p.isDir then _ else _) = _; rw [hd]; rfl
set_option maxRecDepth 100000 in
theorem size_is (h : TreeIs w tb T F) (n : Int) :
    Calls Tryz.prog 31 #[.pointer (some ⟨tb, 0, none⟩), .int .i64 n] w fun e w' => e = .returned (.tuple #[.int .i64 (sizeT T n), TErr (fileE T n)]) ∧ w' = w := by
  obtain ⟨nm, B, D, hin, hok, rfl⟩ := h
  have H := hid hin
  have HF := hid (file_is hin n)
  clear hin hok
  go_enter Tryz.func31, Tryz.ntmps31
  go_wp2_with fail
  refine HF.out.mono ?_
  rintro e w1 ⟨⟨hz, rfl⟩ | ⟨p, hn, hd, hz, rfl⟩, hw⟩ <;> subst w1
  · have te := TErr_of hz
    have HT := hid (sizeT_err hz)
    clear hz
    go_wp2_with fail
    go_returns
    rw [HT.out]
    exact ⟨by rw [te]; rfl, rfl⟩
  · have c1 := (H.out.nd n p hn).c1
    have HT := hid (sizeT_file hn hd)
    have HZ := hid hz
    clear hn hd hz
    go_wp2_with fail
    go_returns
    rw [HT.out, HZ.out]
    exact ⟨rfl, rfl⟩
def cutE (T : PT) (n size : Int) : Int := if fileE T n ≠ 0 then fileE T n else if size < 0 then 2 else 0
def cutT (T : PT) (n size : Int) : PT := if cutE T n size = 0 then setDataT T n ((dataT T n).extract 0 (min size.toNat (dataT T n).size)) else T
set_option maxHeartbeats 2000000 in
set_option maxRecDepth 100000 in
theorem cut_is (h : TreeIs w tb T F) (n size : Int) :
    Calls Tryz.prog 30 #[.pointer (some ⟨tb, 0, none⟩), .int .i64 n, .int .i64 size] w fun e w' => e = .returned (TErr (cutE T n size)) ∧ TreeTo tb F w w' (cutT T n size) := by
  have HI := hid h
  obtain ⟨nm, B, D, hin, hok, rfl⟩ := h
  have H := hid hin
  have HOk := hid hok
  have HF := hid (file_is hin n)
  clear hin hok
  go_enter Tryz.func30, Tryz.ntmps30
  go_wp2_with fail
  refine HF.out.mono ?_
  rintro e w1 ⟨⟨hz, rfl⟩ | ⟨p, hn, hd, hz, rfl⟩, hw⟩ <;> subst w1
  · have te := TErr_of hz
    have hr : cutE T n size = fileE T n := if_pos hz
    have hr2 : cutT T n size = T := if_neg (by rw [hr]; exact hz)
    clear hz
    go_wp2_with fail
    go_returns
    rw [hr2, hr]
    exact ⟨congrArg Ending.returned te.symm, TreeTo.same HI.out (Turn.refl _ _)⟩
  · have nd := H.out.nd n p hn
    have c1 := nd.c1
    have f1 := nd.fz 1
    have hdt : dataT T n = p.data := by unfold dataT; rw [hn]; rfl
    have hsz := HOk.out.data n p hn
    have h00 : ¬ (fileE T n ≠ 0) := fun e => e hz
    have HN := hid hn
    clear hn hz nd
    by_cases ha : size < 0
    · have hr : cutE T n size = 2 := by unfold cutE; rw [if_neg h00, if_pos ha]
      have hr2 : cutT T n size = T := if_neg (by rw [hr]; decide)
      clear h00 hdt
      go_wp2_with fail
      go_returns
      rw [hr2, hr]
      exact ⟨rfl, TreeTo.same HI.out (Turn.refl _ _)⟩
    · have hr : cutE T n size = 0 := by unfold cutE; rw [if_neg h00, if_neg ha]
      have hr2 : cutT T n size = setDataT T n (p.data.extract 0 (min size.toNat p.data.size)) := by unfold cutT; rw [if_pos hr, hdt]
      clear h00 hdt
      obtain ⟨S, rfl⟩ : ∃ S : Nat, size = S := ⟨size.toNat, by omega⟩
      obtain ⟨x, hx⟩ : ∃ x, p.data = x := ⟨_, rfl⟩
      rw [hx] at c1 hsz hr2
      have HX := hid hx
      obtain ⟨hi, hhi⟩ : ∃ hi : Nat, min S x.size = hi := ⟨_, rfl⟩
      have q2 : min (S : Int) (x.size : Int) = hi := by omega
      have q5 : hi ≤ x.size := by omega
      have HFin : Hid (cutT T n S = setDataT T n (x.extract 0 hi)) := hid (by rw [hr2]; simp only [Int.toNat_natCast]; rw [hhi])
      clear hr2 hhi hx
      go_wp2_with fail
      go_region
      all_goals
        go_wp2_with fail
        go_returns
        rw [HFin.out, hr]
        refine ⟨rfl, ?_⟩
        have hle : (x.extract 0 hi).size ≤ 200 := by rw [extract_size x 0 hi q5]; omega
        rw [setDataT_is HN.out]
        exact (H.out.to (HOk.out.upd (p' := { p with data := x.extract 0 hi }) HN.out rfl rfl rfl hle) HN.out rfl ((H.out.nd n p HN.out).setData (H.out.apart HN.out) _) ((Turn.refl _ _).setCell _ _ (fun _ => .inl rfl))).also (Turn.refl _ _).drew
end
end Go.Proofs.YtiohpmcedfbcgacGreatDoor
