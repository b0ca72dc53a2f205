/- The document's pool: Give. Conditions: each theorem's own premises. -/
import Derived.Test.YtiohpmcedfbcgabDoorRefPool
namespace Go.Proofs.YtiohpmcedfbcgabDoor
open Go.RowKit
set_option linter.unusedVariables false

set_option maxHeartbeats 1000000 in
theorem refGive_missing {w : World} {p fb mb cp n : Nat} {g : Bits} {tk : List Bk} (h : RefAt w p fb mb cp n g tk) (b o : Int) (hm : mget tk b = none) :
    Calls Tryd.prog 28 #[.pointer (some ⟨p, 0, none⟩), .int .i64 b, .int .i64 o] w fun e w' => e = .returned (.int .i64 7) ∧ w = w' := by
  have hc := h.c1
  have HM := hid h.mp
  have HG := hid hm
  clear h hm
  go_enter Tryd.func28, Tryd.ntmps28
  go_wp2_with (at_lookup; refine wpList_lookok_miss rfl _ _ 33 3 3 rfl Tryd.underlying33 Tryd.underlying3 keyI _ zeroI mb rfl HM.out b rfl HG.out ?_)
  go_ret
  exact ⟨rfl, rfl⟩
set_option maxHeartbeats 1000000 in
theorem refGive_other {w : World} {p fb mb cp n : Nat} {g : Bits} {tk : List Bk} (h : RefAt w p fb mb cp n g tk) (b o : Int) (k : Nat) (hm : mget tk b = some k) (hk : (k : Int) ≠ o) :
    Calls Tryd.prog 28 #[.pointer (some ⟨p, 0, none⟩), .int .i64 b, .int .i64 o] w fun e w' => e = .returned (.int .i64 7) ∧ w = w' := by
  have hc := h.c1
  have HM := hid h.mp
  have HG := hid hm
  have hb : ((k : Int) != o) = true := bne_iff_ne.2 hk
  clear h hm hk
  go_enter Tryd.func28, Tryd.ntmps28
  go_wp2_with (at_lookup; refine wpList_lookok_hit rfl _ _ 33 3 3 rfl Tryd.underlying33 Tryd.underlying3 keyI _ zeroI mb rfl HM.out b rfl k HG.out ?_)
  go_ret
  exact ⟨rfl, rfl⟩

set_option maxHeartbeats 4000000 in
set_option maxRecDepth 100000 in
theorem refGive_ok {w : World} {p fb mb cp n : Nat} {g : Bits} {tk : List Bk} (h : RefAt w p fb mb cp n g tk) (b k : Nat) (hm : mget tk (b : Int) = some k) (hk : k < 7) (hbn : (b : Int) + sz k ≤ n) (hn : n ≤ 256) :
    Calls Tryd.prog 28 #[.pointer (some ⟨p, 0, none⟩), .int .i64 b, .int .i64 k] w fun e w' => e = .returned (.int .i64 0) ∧ RefAt w' p fb mb cp n (fill g b ((b : Int) + sz k) true) (mdel tk (b : Int)) ∧ Turn (fun j => j = fb ∨ j = mb) w w' := by
  have hc := h.c1
  have HM := hid h.mp
  have HG := hid hm
  have H := hid h
  have hne : ((k : Int) != k) = false := by simp
  have hs := wrap_sz64 ⟨k, hk⟩
  simp only at hs
  have hsp := sz_pos k
  have hsl := sz_le (k := k) (by omega)
  have hk0 : ¬ (k : Int) < 0 := by omega
  clear h hm
  go_enter Tryd.func28, Tryd.ntmps28
  go_wp2_with (first | (at_lookup; refine wpList_lookok_hit rfl _ _ 33 3 3 rfl Tryd.underlying33 Tryd.underlying3 keyI _ zeroI mb rfl HM.out b rfl k HG.out ?_) | (at_delete; refine wpList_mapdel rfl _ _ 33 3 3 rfl Tryd.underlying33 Tryd.underlying3 keyI mb rfl HM.out b rfl ?_; intro w1 hm1 t1))
  have HR1 := hid (H.out.mapped t1 _ hm1)
  have HT1 := hid t1
  clear t1 hm1 HM hc
  go_loopw [9] (fun i wr => ∃ f : Nat, b ≤ f ∧ (f : Int) ≤ b + sz k ∧ i = .int .i64 f ∧ Hid (RefAt wr p fb mb cp n (fill g b f true) (mdel tk (b : Int))) ∧ Hid (Turn (fun j => j = fb ∨ j = mb) w wr)) (fun i _ => 1000 - (intOf i).toNat)
  case atStart => exact ⟨b, Nat.le_refl _, by omega, rfl, hid (by rw [fill_start]; exact HR1.out), hid (HT1.out.mono fun _ _ e => .inr e)⟩
  case round =>
    clear HR1 HT1
    obtain ⟨f, hbf, hf, rfl, hR, hT⟩ := hrel
    by_cases hlt : (f : Int) < b + sz k
    · have hfn : (f : Int) < n := by omega
      have hfn' : f < n := by omega
      have c0 := hR.out.c0
      have cf := hR.out.row f hfn'
      have zf := hR.out.fz f
      go_wp2_with fail
      go_roundw
      case rel => exact ⟨f + 1, by omega, by omega, by go_num, hid (by
        have h1 := hR.out.set f hfn' true
        have e : (((f + 1 : Nat)) : Int) = (f : Int) + 1 := by omega
        rw [e, fill_more g b f true (by omega)]
        exact h1), hid (hT.out.setCell _ _ (fun _ => .inl rfl))⟩
      case measure => simp [intOf]; omega
    · have hfe : (f : Int) = b + sz k := by omega
      go_wp2_with fail
      go_ret
      exact ⟨rfl, by rw [← hfe]; exact hR.out, hT.out⟩
end Go.Proofs.YtiohpmcedfbcgabDoor
