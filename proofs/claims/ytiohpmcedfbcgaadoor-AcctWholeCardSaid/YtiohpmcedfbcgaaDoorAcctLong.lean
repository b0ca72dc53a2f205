/- AcctWhole walked, more than three limits: true, and nothing that was there turns. Conditions: the variable errors.errorType holds what is laid; the arguments lie in memory. -/
import Derived.Test.YtiohpmcedfbcgaaDoorAcctParts
namespace Go.Proofs.YtiohpmcedfbcgaaDoor
open Go.RowKit
set_option linter.unusedVariables false

set_option maxHeartbeats 40000000 in
set_option maxRecDepth 100000 in
theorem acct_long (a : Option Addr) (xs : List Int) (cap : Nat) (a2 : Option Addr) (rs : List (List (Int × Int))) (cap2 : Nat) (W : World) (hL : Laid W) (hl : xs.length ≤ 20) (hl3 : 3 < xs.length) (hl2 : rs.length ≤ 30)
    (hc : xs ≠ [] → ∃ b off, a = some ⟨b, off, none⟩ ∧ NumsAt W b off xs ∧ b < W.heap.size)
    (hc2 : rs ≠ [] → ∃ b off, a2 = some ⟨b, off, none⟩ ∧ RowsAt W b off rs ∧ b < W.heap.size) :
    Calls Tryd.prog 4 #[.slice a xs.length cap, .slice a2 rs.length cap2] W fun e w' => e = .returned (.bool true) ∧ Turn (fun _ => False) W w' := by
  have HC := hid hc
  have HC2 := hid hc2
  have h1 : decide ((20 : Int) < xs.length) = false := by rw [decide_eq_false_iff_not]; omega
  have h2 : decide ((30 : Int) < rs.length) = false := by rw [decide_eq_false_iff_not]; omega
  have HCh := hid (charged_any W hL)
  clear hc hc2 hL
  go_enter Tryd.func4, Tryd.ntmps4
  go_wp2_with fail
  refine HCh.out.mono ?_
  rintro e w1 ⟨rfl, t1⟩
  have HL0 := hid (ledger_new w1)
  have HT0 : Hid (Turn (fun _ => False) W (w1.alloc (.cells #[.int .i64 0, .int .i64 0, .int .i64 0, .int .i64 0, .int .i64 0, .int .i64 0] 45))) := hid (t1.alloc _)
  have hpa : W.heap.size ≤ w1.heap.size := t1.size
  clear t1 HCh
  go_wp2_with fail
  generalize w1.alloc (.cells #[.int .i64 0, .int .i64 0, .int .i64 0, .int .i64 0, .int .i64 0, .int .i64 0] 45) = W1 at *
  generalize w1.heap.size = pa at *
  go_loopw [6] (fun i wr => ∃ (j : Nat) (m : Nat → Int), j ≤ xs.length ∧ j ≤ 3 ∧ i = .int .i64 j ∧ Hid (LedgerIs wr pa (fun _ => 0) m) ∧ Hid (Fit (fun _ => 0) m) ∧ Hid (Turn (fun _ => False) W wr)) (fun i _ => xs.length - (intOf i).toNat)
  case atStart => exact ⟨0, _, Nat.zero_le _, by decide, rfl, HL0, hid fit_zero, HT0⟩
  case round =>
    clear HL0 HT0
    obtain ⟨j, m, hj, hj3, rfl, hLd, hF, hT⟩ := hrel
    by_cases hlt : j < xs.length ∧ j < 3
    · obtain ⟨hlt1, hlt2⟩ := hlt
      have hlt2' : (j : Int) < 3 := by omega
      obtain ⟨x, hx⟩ : ∃ x, xs[j]? = some x := ⟨_, List.getElem?_eq_getElem hlt1⟩
      obtain ⟨b, off, rfl, hA, hb⟩ := HC.out (by rintro rfl; simp at hlt1)
      have d0 := hA.turned hT.out hb id j _ hx
      clear hA hx
      go_wp2_with fail
      refine (pick_some x 100 wr (by decide) (by decide)).mono ?_
      rintro e w2 ⟨K, hK0, hK1, rfl, rfl⟩
      go_wp2_with fail
      refine (limit_ok hLd.out j K hlt2 hK0 (by omega)).mono ?_
      rintro e w2 ⟨rfl, hl3, t3⟩
      have HL3 := hid hl3
      have HT3 := hid t3
      clear hl3 t3
      go_wp2_with fail
      go_roundw
      case rel => exact ⟨j + 1, _, by omega, by omega, by go_num, HL3, hid (fit_most hF.out j K hK0 (by omega)), hid (hT.out.trans' HT3.out (fun k hk e => by omega))⟩
      case measure => simp [intOf]; omega
    · have hun : Under (fun _ => 0) m := fun k hk => (hF.out k hk).2.2.1
      have e1 : (j : Int) < xs.length := by omega
      have e2 : ¬ (j : Int) < 3 := by omega
      have HU := hid hun
      clear hlt hun
      · go_wp2_with fail
        clear e1 e2
        go_loopw [7] (fun i wr => ∃ (j : Nat) (u : Nat → Int), j ≤ rs.length ∧ i = .int .i64 j ∧ Hid (LedgerIs wr pa u m) ∧ Hid (Fit u m) ∧ Hid (Under u m) ∧ Hid (Turn (fun _ => False) W wr)) (fun i _ => rs.length - (intOf i).toNat)
        case atStart => exact ⟨0, _, Nat.zero_le _, rfl, hLd, hF, HU, hT⟩
        case round =>
          clear hLd hF HU hT
          obtain ⟨i, u, hi, rfl, hLd, hF, hU, hT⟩ := hrel
          by_cases hlt : i < rs.length
          · obtain ⟨r, hr⟩ : ∃ r, rs[i]? = some r := ⟨_, List.getElem?_eq_getElem hlt⟩
            obtain ⟨b, off, rfl, hA, hb⟩ := HC2.out (by rintro rfl; simp at hlt)
            obtain ⟨v, hv, ra, rcap, rfl, hr1, hr2, hr3⟩ := hA i _ hr
            have d0 := (hT.out.cell (a := ⟨b, off + i, none⟩) hb id).trans hv
            unfold maxLen at hr2
            have HR3 := hid hr3
            have HV := hid hv
            clear hA hr hv hr3
            by_cases hbig : 20 < r.length
            · have hbig' : (20 : Int) < r.length := by omega
              go_wp2_with fail
              all_goals go_ret
              all_goals exact ⟨rfl, hT.out⟩
            · have hbig' : ¬ (20 : Int) < r.length := by omega
              have hr20 : r.length ≤ 20 := by omega
              clear hbig
              have hB0 : LedgerIs ((wr.alloc (.cells #[.int .i64 0, .int .i64 0, .int .i64 0, .int .i64 0, .int .i64 0, .int .i64 0] 45)).alloc (.cells #[.int .i64 0, .int .i64 0, .int .i64 0] 43)) wr.heap.size (fun _ => 0) (fun _ => 0) := (ledger_new wr).turned ((Turn.refl (fun _ => False) _).alloc _) id
              have hN0 : NowIs ((wr.alloc (.cells #[.int .i64 0, .int .i64 0, .int .i64 0, .int .i64 0, .int .i64 0, .int .i64 0] 45)).alloc (.cells #[.int .i64 0, .int .i64 0, .int .i64 0] 43)) (wr.heap.size + 1) (fun _ => 0) := now_new _ _
              have hT0 : Turn (fun _ => False) W ((wr.alloc (.cells #[.int .i64 0, .int .i64 0, .int .i64 0, .int .i64 0, .int .i64 0, .int .i64 0] 45)).alloc (.cells #[.int .i64 0, .int .i64 0, .int .i64 0] 43)) := (hT.out.alloc _).alloc _
              have hA0 : LedgerIs ((wr.alloc (.cells #[.int .i64 0, .int .i64 0, .int .i64 0, .int .i64 0, .int .i64 0, .int .i64 0] 45)).alloc (.cells #[.int .i64 0, .int .i64 0, .int .i64 0] 43)) pa u m := hLd.out.turned (((Turn.refl (fun _ => False) _).alloc _).alloc _) id
              have hpb : pa < wr.heap.size := hLd.out.lt
              have hWb : W.heap.size ≤ wr.heap.size := hT.out.size
              go_wp2_with fail
              generalize (wr.alloc (.cells #[.int .i64 0, .int .i64 0, .int .i64 0, .int .i64 0, .int .i64 0, .int .i64 0] 45)).alloc (.cells #[.int .i64 0, .int .i64 0, .int .i64 0] 43) = Wb at *
              obtain ⟨pb, hpbe⟩ : ∃ x, wr.heap.size = x := ⟨_, rfl⟩
              rw [hpbe] at hB0 hN0 hpb hWb
              rw [hpbe]
              have HB0 := hid hB0
              have HN0 := hid hN0
              have HA0 := hid hA0
              have HT0 := hid hT0
              clear hpbe hB0 hN0 hA0 hT0
              have HT := hT
              have HF := hF
              have HU := hU
              clear hT hLd
              go_loopw [10] (fun k wr => ∃ (kk : Nat) (wv : Nat → Int), kk ≤ 3 ∧ k = .int .i64 kk ∧ Hid (LedgerIs wr pa u m) ∧ Hid (LedgerIs wr pb (fun j => if j < kk then u j else 0) (fun j => if j < kk then m j else 0)) ∧ Hid (NowIs wr (pb + 1) wv) ∧ Hid (∀ j, j < kk → wv j = u j) ∧ Hid (Turn (fun _ => False) W wr)) (fun k _ => 3 - (intOf k).toNat)
              case atStart => exact ⟨0, _, by decide, rfl, HA0, HB0, HN0, hid (fun j h => by omega), HT0⟩
              case round =>
                clear HB0 HN0 HA0 HT0 HT
                obtain ⟨kk, wv, hk, rfl, hA, hB, hN, hw, hT⟩ := hrel
                by_cases hk3 : kk < 3
                · have hk3' : (kk : Int) < 3 := by omega
                  go_wp2_with fail
                  refine (used_is hA.out kk hk3).mono ?_
                  rintro e w2 ⟨rfl, rfl⟩
                  have n0 := hN.out.c kk hk3
                  have nf := hN.out.f kk
                  have ts : Turn (fun j => j = pb + 1) wr (wr.setCell ⟨pb + 1, kk, none⟩ (.int .i64 (u kk))) := turn_set1 wr (pb + 1) kk _
                  have hA2 := hA.out.turned ts (by omega)
                  have hB2 := hB.out.turned ts (by omega)
                  have hN2 := hN.out.set kk hk3 (u kk)
                  have hT2 := hT.out.trans' ts (fun k hk e => by omega)
                  have HA2 := hid hA2
                  have HB2 := hid hB2
                  have HN2 := hid hN2
                  have HT2 := hid hT2
                  have n1 := hN2.c kk hk3
                  rw [upd_same] at n1
                  clear ts hA2 hB2 hN2 hT2
                  obtain ⟨f1, f2, f3, f4⟩ := hF.out kk hk3
                  have fu := hU.out kk hk3
                  go_wp2_with fail
                  clear n0 nf
                  generalize wr.setCell ⟨pb + 1, kk, none⟩ (.int .i64 (u kk)) = W2 at *
                  refine (most_is HA2.out kk hk3).mono ?_
                  rintro e w3 ⟨rfl, rfl⟩
                  go_wp2_with fail
                  refine (limit_ok HB2.out kk (m kk) hk3 f3 f4).mono ?_
                  rintro e w3 ⟨rfl, hB3, t3⟩
                  have hB4 : LedgerIs w3 pb (fun j => if j < kk then u j else 0) (fun j => if j < kk + 1 then m j else 0) := ⟨hB3.cu, fun j hj => by
                    rw [hB3.cm j hj]
                    unfold upd
                    congr 2
                    by_cases e1 : j = kk
                    · subst e1; simp
                    · by_cases e2 : j < kk
                      · simp [e1, e2]; omega
                      · simp [e1, e2]; omega, hB3.fz⟩
                  have HA3 := hid (HA2.out.turned t3 (by omega))
                  have HN3 := hid (HN2.out.turned t3 (by omega))
                  have HT3 := hid (HT2.out.trans' t3 (fun k hk e => by omega))
                  have HB4 := hid hB4
                  have n2 := (t3.cell (a := ⟨pb + 1, kk, none⟩) (lt_of_cell n1) (by simp only; omega)).trans n1
                  have hT5 : Turn (fun _ => False) w3 (w3.alloc (.cells #[.int .i64 (kk : Int), .int .i64 (u kk)] 51)) := (Turn.refl _ _).alloc _
                  have HCg := hid (charge_any (hB4.turned hT5 id) (fit_part hF.out kk) (some ⟨w3.heap.size, 0, none⟩) [((kk : Int), u kk)] 1 (by simp) (fun _ => ⟨_, 0, rfl, asks_one _ _ _ _, by simp⟩))
                  have HT5 := hid hT5
                  clear hB3 t3 hB4 HA2 HN2 HT2 n1 hT5
                  go_wp2_with fail
                  refine HCg.out.mono ?_
                  rintro e w4 (⟨v4, hv4, _, rfl, hB5, t4⟩ | ⟨er, _, _, hv4, he4, _⟩)
                  · rw [chg_part hF.out hU.out kk hk3] at hv4
                    cases hv4
                    have HB5 := hid hB5
                    have HT4 := hid t4
                    clear hB5 t4
                    go_wp2_with fail
                    go_roundw
                    case rel =>
                      refine ⟨kk + 1, upd wv kk (u kk), by omega, by go_num, hid ((HA3.out.turned HT5.out id).turned HT4.out (by omega)), hid (HB5.out.same (fun k hk => ?_)), hid ((HN3.out.turned HT5.out id).turned HT4.out (by omega)), hid (fun j hj => ?_), hid ((HT3.out.trans HT5.out).trans' HT4.out (fun k hk e => by omega))⟩
                      · show upd (fun j => if j < kk then u j else 0) ((kk : Int)).toNat _ k = _
                        unfold upd
                        rw [Int.toNat_natCast]
                        by_cases e1 : k = kk
                        · subst e1; simp
                        · rw [if_neg e1]
                          show (if k < kk then u k else 0) = (if k < kk + 1 then u k else 0)
                          by_cases e2 : k < kk
                          · rw [if_pos e2, if_pos (by omega)]
                          · rw [if_neg e2, if_neg (by omega)]
                      · by_cases e1 : j = kk
                        · subst e1; rw [upd_same]
                        · rw [upd_other _ _ e1]; exact hw.out j (by omega)
                    case measure => simp [intOf]; omega
                  · exfalso
                    rw [chg_part hF.out hU.out kk hk3] at hv4
                    cases hv4
                · have hk33 : kk = 3 := by omega
                  subst hk33
                  have HBu : Hid (LedgerIs wr pb u m) := hid ⟨fun k hk => by rw [hB.out.cu k hk, if_pos hk], fun k hk => by rw [hB.out.cm k hk, if_pos hk], hB.out.fz⟩
                  have d0 := (hT.out.cell (a := ⟨b, off + i, none⟩) hb id).trans HV.out
                  have HCg := hid (charge_any hA.out hF.out ra r rcap (by omega) (fun hne => by
                    obtain ⟨g, o, e1, e2, e3⟩ := HR3.out hne
                    exact ⟨g, o, e1, e2.turned hT.out e3 id, Nat.lt_of_lt_of_le e3 hT.out.size⟩))
                  clear hB hk hk3
                  go_wp2_with fail
                  refine HCg.out.mono ?_
                  rintro e w4 (⟨v, hv4, hfv, rfl, hA5, t4⟩ | ⟨er, ei, eb, hv4, he4, rfl, hb0, _, hbb, t4⟩)
                  · have HT4 := hid (hT.out.trans' t4 (fun k hk e => by omega))
                    have HB4 := hid (HBu.out.turned t4 (by omega))
                    have HN4 := hid (hN.out.turned t4 (by omega))
                    have HA4 := hid hA5
                    have HFv := hid hfv
                    have HV4 := hid hv4
                    clear hA5 t4 hfv hv4 HBu hN hA hT d0 HCg
                    go_wp2_with fail
                    go_loopw [12] (fun k wr => ∃ (kk : Nat) (vb : Nat → Int), kk ≤ r.length ∧ k = .int .i64 kk ∧ Hid (LedgerIs wr pb vb m) ∧ Hid (Fit vb m) ∧ Hid (chg m u (r.take kk) 0 = .inr vb) ∧ Hid (LedgerIs wr pa v m) ∧ Hid (NowIs wr (pb + 1) wv) ∧ Hid (Turn (fun _ => False) W wr)) (fun k _ => r.length - (intOf k).toNat)
                    case atStart => exact ⟨0, u, Nat.zero_le _, rfl, HB4, hF, hid rfl, HA4, HN4, HT4⟩
                    case round =>
                      clear HB4 HA4 HN4 HT4
                      obtain ⟨kk, vb, hk, rfl, hB, hFb, hCb, hA, hN, hT⟩ := hrel
                      have d0 := (hT.out.cell (a := ⟨b, off + i, none⟩) hb id).trans HV.out
                      have hWr : pb < wr.heap.size := hB.out.lt
                      by_cases hkl : kk < r.length
                      · have hkl' : (kk : Int) < r.length := by omega
                        obtain ⟨x, hx⟩ : ∃ x, r[kk]? = some x := ⟨_, List.getElem?_eq_getElem hkl⟩
                        obtain ⟨g, o, rfl, hAt, hgl⟩ := HR3.out (by rintro rfl; simp at hkl)
                        have hAx : AsksAt wr g (o + kk * 2) [x] := fun j y hy => by
                          match j, hy with
                          | 0, hy =>
                            cases hy
                            have := (hAt.turned hT.out hgl id) kk x hx
                            simpa using this
                        have e1 : r = r.take kk ++ x :: r.drop (kk + 1) := by
                          obtain ⟨_, h2⟩ := List.getElem?_eq_some_iff.1 hx
                          rw [← h2, List.getElem_cons_drop]; simp
                        have h3 := chg_snoc m _ u vb 0 (x :: r.drop (kk + 1)) hCb.out
                        rw [← e1, HV4.out] at h3
                        have h0 : why vb m x = 0 := by
                          simp only [chg] at h3
                          split at h3
                          · assumption
                          · cases h3
                        have h4 : chg m vb [x] 0 = .inr (done vb x) := by simp only [chg]; rw [if_pos h0]
                        have HS4 : Hid (chg m u (r.take (kk + 1)) 0 = .inr (done vb x)) := hid (by
                          rw [take_more' hx, chg_snoc m _ u vb 0 [x] hCb.out]
                          simp only [chg]; rw [if_pos h0])
                        have HCg := hid (charge_any hB.out hFb.out (some ⟨g, o + kk * 2, none⟩) [x] (rcap - kk) (by simp) (fun _ => ⟨g, _, rfl, hAx, Nat.lt_of_lt_of_le hgl hT.out.size⟩))
                        have H0 := hid h0
                        have H4 := hid h4
                        have q1 : ¬ rcap = kk := by omega
                        have q2 : (kk : Int) + 1 ≤ rcap := by omega
                        have q3 : (kk : Int) + 1 ≤ r.length := by omega
                        have q4 : ((kk : Int) + 1).toNat = kk + 1 := by omega
                        have q5 : (kk : Int) ≤ (kk : Int) + 1 := by omega
                        have q6 : kk + 1 - kk = 1 := by omega
                        clear h0 h3 h4 e1 hAx hAt hx
                        go_wp2_with fail
                        refine HCg.out.mono ?_
                        rintro e w5 (⟨v5, hv5, hf5, rfl, hB5, t5⟩ | ⟨_, _, _, hv5, _⟩)
                        · rw [H4.out] at hv5
                          cases hv5
                          have HB5 := hid hB5
                          have HT5 := hid t5
                          have HF5 := hid hf5
                          clear hB5 t5 hf5
                          go_wp2_with fail
                          go_roundw
                          case rel => exact ⟨kk + 1, _, by omega, by go_num, HB5, HF5, HS4, hid (hA.out.turned HT5.out (by omega)), hid (hN.out.turned HT5.out (by omega)), hid (hT.out.trans' HT5.out (fun k hk e => by omega))⟩
                          case measure => simp [intOf]; omega
                        · rw [H4.out] at hv5
                          cases hv5
                      · have hke : kk = r.length := by omega
                        subst hke
                        have hvb : vb = v := by
                          have := hCb.out
                          rw [List.take_length, HV4.out] at this
                          cases this; rfl
                        subst hvb
                        have HA5 := hA
                        have HB5 := hB
                        have HN5 := hN
                        have HT5 := hT
                        have HUv : Hid (Under vb m) := hid (under_chg hU.out HV4.out)
                        clear hA hB hN hT hkl hk
                        go_wp2_with fail
                        go_loopw [13] (fun k wr => ∃ kk : Nat, kk ≤ 3 ∧ k = .int .i64 kk ∧ Hid (LedgerIs wr pa vb m) ∧ Hid (LedgerIs wr pb vb m) ∧ Hid (NowIs wr (pb + 1) wv) ∧ Hid (Turn (fun _ => False) W wr)) (fun k _ => 3 - (intOf k).toNat)
                        case atStart => exact ⟨0, by decide, rfl, HA5, HB5, HN5, HT5⟩
                        case round =>
                          clear HA5 HB5 HN5 HT5
                          obtain ⟨kk, hk, rfl, hA, hB, hN, hT⟩ := hrel
                          by_cases hk3 : kk < 3
                          · have hk3' : (kk : Int) < 3 := by omega
                            have n0 := hN.out.c kk hk3
                            rw [hw.out kk hk3] at n0
                            obtain ⟨f1, f2, f3, f4⟩ := HFv.out kk hk3
                            have fu := HUv.out kk hk3
                            have g1 : ¬ vb kk < 0 := by omega
                            have g2 : ¬ m kk < vb kk := by omega
                            have HQa := hid (fun n => (used_is (hA.out.turned ((Turn.refl (fun _ => False) wr).drewN n) id) kk hk3).mono fun _ _ ⟨he, hw⟩ => (⟨he, hw.symm⟩ : _ ∧ _ = wr.drewN n))
                            have HQb := hid (fun n => (used_is (hB.out.turned ((Turn.refl (fun _ => False) wr).drewN n) id) kk hk3).mono fun _ _ ⟨he, hw⟩ => (⟨he, hw.symm⟩ : _ ∧ _ = wr.drewN n))
                            have HQm := hid (fun n => (most_is (hA.out.turned ((Turn.refl (fun _ => False) wr).drewN n) id) kk hk3).mono fun _ _ ⟨he, hw⟩ => (⟨he, hw.symm⟩ : _ ∧ _ = wr.drewN n))
                            go_wp2_with fail
                            go_quiet ((first | (go_at_call 19; with_reducible exact Calls.quiet_of_same (HQa.out _)) | (go_at_call 19; with_reducible exact Calls.quiet_of_same (HQb.out _)) | (go_at_call 20; with_reducible exact Calls.quiet_of_same (HQm.out _))))
                            go_wp2_with fail
                            have T0 := (Turn.refl (fun _ => False) wr).drewN nq
                            go_roundw
                            case rel => exact ⟨kk + 1, by omega, by go_num, hid (hA.out.turned T0 id), hid (hB.out.turned T0 id), hid (hN.out.turned T0 id), hid (hT.out.trans T0)⟩
                            case measure => simp [intOf]; omega
                          · go_wp2_with fail
                            go_roundw
                            case rel => exact ⟨i + 1, vb, by omega, by go_num, hA, HFv, HUv, hT⟩
                            case measure => simp [intOf]; omega
                  · have HT5 := hid (hT.out.trans t4)
                    have HB5 := hid (HBu.out.turned t4 id)
                    have HN5 := hid (hN.out.turned t4 id)
                    have HA5 := hid (hA.out.turned t4 id)
                    have hr0 : 0 < r.length := by
                      rcases r with _ | ⟨x, r⟩
                      · simp only [chg] at hv4; cases hv4
                      · simp
                    have hr0' : (0 : Int) < r.length := by omega
                    have d0' := (t4.cell (a := ⟨b, off + i, none⟩) (lt_of_cell d0) id).trans d0
                    clear t4 hb0 hbb hv4 he4 HBu hN hA hT d0 HCg
                    go_wp2_with fail
                    refine wp_loop_rounds 1 ?_
                    rw [rounds_succ]
                    go_wp2_with fail
                    go_loopw [13] (fun k wr => ∃ kk : Nat, kk ≤ 3 ∧ k = .int .i64 kk ∧ Hid (LedgerIs wr pa u m) ∧ Hid (LedgerIs wr pb u m) ∧ Hid (NowIs wr (pb + 1) wv) ∧ Hid (Turn (fun _ => False) W wr)) (fun k _ => 3 - (intOf k).toNat)
                    case atStart => exact ⟨0, by decide, rfl, HA5, HB5, HN5, HT5⟩
                    case round =>
                      clear HA5 HB5 HN5 HT5
                      obtain ⟨kk, hk, rfl, hA, hB, hN, hT⟩ := hrel
                      by_cases hk3 : kk < 3
                      · have hk3' : (kk : Int) < 3 := by omega
                        have n0 := hN.out.c kk hk3
                        rw [hw.out kk hk3] at n0
                        obtain ⟨f1, f2, f3, f4⟩ := HF.out kk hk3
                        have fu := HU.out kk hk3
                        have g1 : ¬ u kk < 0 := by omega
                        have g2 : ¬ m kk < u kk := by omega
                        have HQa := hid (fun n => (used_is (hA.out.turned ((Turn.refl (fun _ => False) wr).drewN n) id) kk hk3).mono fun _ _ ⟨he, hw⟩ => (⟨he, hw.symm⟩ : _ ∧ _ = wr.drewN n))
                        have HQb := hid (fun n => (used_is (hB.out.turned ((Turn.refl (fun _ => False) wr).drewN n) id) kk hk3).mono fun _ _ ⟨he, hw⟩ => (⟨he, hw.symm⟩ : _ ∧ _ = wr.drewN n))
                        have HQm := hid (fun n => (most_is (hA.out.turned ((Turn.refl (fun _ => False) wr).drewN n) id) kk hk3).mono fun _ _ ⟨he, hw⟩ => (⟨he, hw.symm⟩ : _ ∧ _ = wr.drewN n))
                        go_wp2_with fail
                        go_quiet ((first | (go_at_call 19; with_reducible exact Calls.quiet_of_same (HQa.out _)) | (go_at_call 19; with_reducible exact Calls.quiet_of_same (HQb.out _)) | (go_at_call 20; with_reducible exact Calls.quiet_of_same (HQm.out _))))
                        go_wp2_with fail
                        have T0 := (Turn.refl (fun _ => False) wr).drewN nq
                        go_roundw
                        case rel => exact ⟨kk + 1, by omega, by go_num, hid (hA.out.turned T0 id), hid (hB.out.turned T0 id), hid (hN.out.turned T0 id), hid (hT.out.trans T0)⟩
                        case measure => simp [intOf]; omega
                      · go_wp2_with fail
                        go_roundw
                        case rel => exact ⟨i + 1, u, by omega, by go_num, hA, HF, HU, hT⟩
                        case measure => simp [intOf]; omega
          · have hie : ¬ (i : Int) < rs.length := by omega
            clear hlt HC HC2
            go_wp2_with fail
            go_loopw [14] (fun k wr => ∃ kk : Nat, kk ≤ 3 ∧ k = .int .i64 kk ∧ Hid (LedgerIs wr pa u m) ∧ Hid (Turn (fun _ => False) W wr)) (fun k _ => 3 - (intOf k).toNat)
            case atStart => exact ⟨0, by decide, rfl, hLd, hT⟩
            case round =>
              clear hLd hT
              obtain ⟨kk, hk, rfl, hLd, hT⟩ := hrel
              by_cases hk3 : kk < 3
              · have hk3' : (kk : Int) < 3 := by omega
                go_wp2_with fail
                refine (used_is hLd.out kk hk3).mono ?_
                rintro e w2 ⟨rfl, rfl⟩
                obtain ⟨f1, f2, f3, f4⟩ := hF.out kk hk3
                have hneg : IntKind.i64.wrap (-(u kk)) = -(u kk) := IntWalk.i64_in _ (by omega)
                have hT5 : Turn (fun _ => False) wr (wr.alloc (.cells #[.int .i64 (kk : Int), .int .i64 (-(u kk)), .int .i64 (kk : Int), .int .i64 (u kk)] 51)) := (Turn.refl _ _).alloc _
                have HCg := hid (charge_any (hLd.out.turned hT5 id) hF.out (some ⟨wr.heap.size, 0, none⟩) [((kk : Int), -(u kk)), ((kk : Int), u kk)] 2 (by simp) (fun _ => ⟨_, 0, rfl, asks_two _ _ _ _ _ _, by simp⟩))
                have HT5 := hid hT5
                clear hT5
                obtain ⟨vv, hv1, hv2⟩ := chg_back hF.out hU.out kk hk3
                have HV1 := hid hv1
                have HV2 := hid hv2
                clear hv1 hv2
                go_wp2_with fail
                refine HCg.out.mono ?_
                rintro e w4 (⟨v4, hv4, _, rfl, hL5, t4⟩ | ⟨er, _, _, hv4, _⟩)
                · rw [HV1.out] at hv4
                  cases hv4
                  have HL5 := hid (hL5.same HV2.out)
                  have HT4 := hid ((hT.out.trans HT5.out).trans' t4 (fun k hk e => by omega))
                  clear hL5 t4
                  go_wp2_with fail
                  refine (used_is HL5.out kk hk3).mono ?_
                  rintro e w5 ⟨rfl, rfl⟩
                  go_wp2_with fail
                  go_roundw
                  case rel => exact ⟨kk + 1, by omega, by go_num, HL5, HT4⟩
                  case measure => simp [intOf]; omega
                · rw [HV1.out] at hv4; cases hv4
              · go_wp2_with fail
                all_goals go_ret
                all_goals exact ⟨rfl, hT.out⟩
end Go.Proofs.YtiohpmcedfbcgaaDoor
