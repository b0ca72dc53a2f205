/- AcctWhole's own fact 'charged': true. Condition: the variable errors.errorType holds what is laid. -/
import Derived.Test.YtiohpmcedfbcgaaDoorCharge
import Derived.Test.YtiohpmcedfbcgaaDoorAsAt
namespace Go.Proofs.YtiohpmcedfbcgaaDoor
open Go.RowKit
set_option linter.unusedVariables false

theorem ledger_new (w : World) : LedgerIs (w.alloc (.cells #[.int .i64 0, .int .i64 0, .int .i64 0, .int .i64 0, .int .i64 0, .int .i64 0] 45)) w.heap.size (fun _ => 0) (fun _ => 0) := by
  refine ⟨fun k hk => ?_, fun k hk => ?_, fun i => by simp⟩
  · match k, hk with
    | 0, _ => simp
    | 1, _ => simp
    | 2, _ => simp
  · match k, hk with
    | 0, _ => simp
    | 1, _ => simp
    | 2, _ => simp
theorem fit_zero : Fit (fun _ => 0) (fun _ => 0) := fun _ _ => ⟨by simp, by simp, by simp, by simp⟩
theorem fit_most {u m : Nat → Int} (h : Fit u m) (k : Nat) (n : Int) (h0 : 0 ≤ n) (h1 : n ≤ 1000000) : Fit u (upd m k n) := fun j hj => by
  obtain ⟨a, b, c, d⟩ := h j hj
  by_cases e : j = k
  · subst e; rw [upd_same]; exact ⟨a, b, h0, h1⟩
  · rw [upd_other _ _ e]; exact ⟨a, b, c, d⟩
theorem asks_one (w : World) (k n : Int) (t : TypeId) : AsksAt (w.alloc (.cells #[.int .i64 k, .int .i64 n] t)) w.heap.size 0 [(k, n)] := fun j x hx => by
  match j, hx with
  | 0, hx => cases hx; exact ⟨by simp, by simp⟩
theorem asks_two (w : World) (k n k2 n2 : Int) (t : TypeId) : AsksAt (w.alloc (.cells #[.int .i64 k, .int .i64 n, .int .i64 k2, .int .i64 n2] t)) w.heap.size 0 [(k, n), (k2, n2)] := fun j x hx => by
  match j, hx with
  | 0, hx => cases hx; exact ⟨by simp, by simp⟩
  | 1, hx => cases hx; exact ⟨by simp, by simp⟩

def m5 : Nat → Int := upd (fun _ => 0) 1 5
def u4 : Nat → Int := done (fun _ => 0) (1, 4)
theorem chg_4 : chg m5 (fun _ => 0) [(1, 4)] 0 = .inr u4 := rfl
theorem chg_11 : chg m5 u4 [(1, 1), (1, 1)] 0 = .inl (4, 1) := rfl

set_option maxHeartbeats 4000000 in
set_option maxRecDepth 100000 in
theorem charged_any (w : World) (hL : Laid w) : Calls Tryd.prog 17 #[] w fun e w' => e = .returned (.bool true) ∧ Turn (fun _ => False) w w' := by
  have HL0 := hid (ledger_new w)
  have HT0 : Hid (Turn (fun k => k = w.heap.size) w (w.alloc (.cells #[.int .i64 0, .int .i64 0, .int .i64 0, .int .i64 0, .int .i64 0, .int .i64 0] 45))) := hid ((Turn.refl _ _).alloc _)
  have HLa := hid hL
  clear hL
  go_enter Tryd.func17, Tryd.ntmps17
  go_wp2_with fail
  refine (limit_ok HL0.out 1 5 (by decide) (by decide) (by decide)).mono ?_
  rintro e w1 ⟨rfl, hl1, t1⟩
  have HL1 : Hid (LedgerIs w1 w.heap.size (fun _ => 0) m5) := hid hl1
  have HT1 := hid (HT0.out.trans t1)
  have HF1 : Hid (Fit (fun _ => 0) m5) := hid (fit_most fit_zero 1 5 (by decide) (by decide))
  clear hl1 t1 HL0 HT0
  have hc1 := charge_any (HL1.out.turned ((Turn.refl (fun _ => False) w1).alloc (.cells #[.int .i64 1, .int .i64 4] 51)) id) HF1.out (some ⟨w1.heap.size, 0, none⟩) [(1, 4)] 1 (by decide) (fun _ => ⟨_, 0, rfl, asks_one _ _ _ _, by simp⟩)
  have HC1 := hid hc1
  clear hc1
  go_wp2_with fail
  refine HC1.out.mono ?_
  rintro e w2 (⟨v, hv, hf2, rfl, hl2, t2⟩ | ⟨er, i, b, hv, _⟩)
  · rw [chg_4] at hv
    cases hv
    have HL2 := hid hl2
    have HF2 := hid hf2
    have HT2 := hid ((HT1.out.alloc (.cells #[.int .i64 1, .int .i64 4] 51)).trans t2)
    clear hl2 hf2 t2 HL1 HF1 HT1 HC1
    have hc2 := charge_any (HL2.out.turned ((Turn.refl (fun _ => False) w2).alloc (.cells #[.int .i64 1, .int .i64 1, .int .i64 1, .int .i64 1] 51)) id) HF2.out (some ⟨w2.heap.size, 0, none⟩) [(1, 1), (1, 1)] 2 (by decide) (fun _ => ⟨_, 0, rfl, asks_two _ _ _ _ _ _, by simp⟩)
    have HC2 := hid hc2
    clear hc2
    go_wp2_with fail
    refine HC2.out.mono ?_
    rintro e w3 (⟨v, hv, _⟩ | ⟨er, i, b, hv, _, rfl, hb0, _, hb, t3⟩)
    · rw [chg_11] at hv; cases hv
    · rw [chg_11] at hv
      cases hv
      have T3 := ((HT2.out.alloc (.cells #[.int .i64 1, .int .i64 1, .int .i64 1, .int .i64 1] 51)).trans (t3.mono fun _ _ h => h.elim))
      have HL3 : Hid (LedgerIs w3 w.heap.size u4 m5) := hid ((HL2.out.turned ((Turn.refl (fun _ => False) w2).alloc (.cells #[.int .i64 1, .int .i64 1, .int .i64 1, .int .i64 1] 51)) id).turned t3 id)
      have HT3 := hid T3
      have HTell := hid (tell_at 4 b w3 (HLa.out.turned T3 (by have := HLa.out.lt; omega)) hb0)
      clear t3 T3 hb0 hb HL2 HF2 HT2 HC2
      go_wp2_with fail
      refine HTell.out.mono ?_
      rintro e w4 ⟨rfl, t4⟩
      have HL4 := hid (HL3.out.turned t4 id)
      have HT4 := hid (HT3.out.trans (t4.mono fun _ _ h => h.elim))
      clear t4
      go_wp2_with fail
      refine (used_is HL4.out 1 (by decide)).mono ?_
      rintro e w5 ⟨rfl, rfl⟩
      have h4 : u4 1 = 4 := rfl
      rw [h4]
      go_wp2_with fail
      go_ret
      exact ⟨rfl, HT4.out.mono (fun k hk e => by omega)⟩
  · rw [chg_4] at hv; cases hv
end Go.Proofs.YtiohpmcedfbcgaaDoor
