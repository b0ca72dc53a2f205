/- The document's pool: Free tells the free blocks, by their first frames, as the pool's own lists have them. Conditions: each theorem's own premises. -/
import Derived.Test.YtiohpmcedfbcgabDoorRefPool
import Derived.Test.YtiohpmcedfbcgabDoorFreeRes
namespace Go.Proofs.YtiohpmcedfbcgabDoor
open Go.RowKit
set_option linter.unusedVariables false

theorem mod_sz (f : Nat) (k : Nat) (hk : k < 7) : ((f : Int).tmod (sz k) != 0) = !decide ((f : Int) % sz k = 0) := by
  have h1 := sz_pos k
  rw [Int.tmod_eq_emod_of_nonneg (by omega)]
  by_cases e : (f : Int) % sz k = 0
  · rw [e]; simp
  · simp [e]
set_option maxHeartbeats 4000000 in
set_option maxRecDepth 100000 in
theorem refFree_any {w : World} {p fb mb cp n : Nat} {g : Bits} {tk : List Bk} {fr : Fr} (h : RefAt w p fb mb cp n g tk) (hg : Good n fr tk) (hb : BitsOf n tk g) (hn : n ≤ 256) :
    Calls Tryd.prog 25 #[.pointer (some ⟨p, 0, none⟩)] w (FreeRes fr w) := by
  have H := hid h
  have HG := hid hg
  have HB := hid hb
  have hpw : p < w.heap.size := lt_of_cell h.c0
  clear h hg hb
  go_enter Tryd.func25, Tryd.ntmps25
  go_wp2_with fail
  go_loopw [3, 4] (fun v i wr => ∃ (f : Nat) (l : List Bk), (f : Int) ≤ n + 64 ∧ i = .int .i64 f ∧ Hid (FreeTo fr l f) ∧ Hid (BlksAt wr v l) ∧ Hid (∀ g, v.ownBlock = some g → w.heap.size ≤ g) ∧ Hid (Turn (fun _ => False) w wr)) (fun _ i _ => 1000 - (intOf i).toNat)
  case atStart => exact ⟨0, [], by omega, rfl, hid (FreeTo.start HG.out), hid (BlksAt.empty w), hid (fun g h => by cases h), hid (Turn.refl _ _)⟩
  case round =>
    obtain ⟨f, l, hf, rfl, hFT, hB, hO, hT⟩ := hrel
    have HR := hid (H.out.turned hT.out (fun _ _ => id))
    have c0 := HR.out.c0
    by_cases hlt : f < n
    · have hlt' : (f : Int) < n := by omega
      have hc := HR.out.row f hlt
      cases hgf : g f with
      | false =>
        rw [hgf] at hc
        have HGf := hid hgf
        clear hgf
        go_wp2_with fail
        go_roundw
        case rel => exact ⟨f + 1, l, by omega, by go_num, hid (hFT.out.no HG.out HB.out HGf.out), hB, hO, hT⟩
        case measure => simp [intOf]; omega
      | true =>
        rw [hgf] at hc
        have HGf := hid hgf
        clear hgf
        go_wp2_with fail
        obtain ⟨wo, rfl⟩ : ∃ wo : World, wo = wr := ⟨_, rfl⟩
        go_loop [5] (fun k' => ∃ k : Nat, k' = .int .i64 k ∧ k ≤ 6 ∧ Hid (∀ j, k < j → j < 7 → ¬ ((f : Int) % sz j = 0 ∧ AllFree n g f j))) (fun k' => (intOf k').toNat)
        case atStart => exact ⟨6, rfl, by omega, hid (fun j h1 h2 => by omega)⟩
        case round =>
          obtain ⟨k, rfl, hk6, hM⟩ := hrel
          have hs := wrap_sz64 ⟨k, by omega⟩
          simp only at hs
          have hsp := sz_pos k
          have hsl := sz_le hk6
          have hk0 : ¬ (k : Int) < 0 := by omega
          have hsn : (sz k == 0) = false := beq_eq_false_iff_ne.2 (by omega)
          have hmd := mod_sz f k (by omega)
          by_cases ha : (f : Int) % sz k = 0
          · have HA := hid ha
            rw [ha] at hmd
            simp only [decide_true, Bool.not_true] at hmd
            clear ha
            by_cases hw : AllFree n g f k
            · have HW := hid hw
              have HWh := hid ((whole_is HR.out hn f (by omega) k hk6).mono (fun e w' hh => show e = _ ∧ wo = w' from ⟨(hh.2.resolve_right (fun h => h.2 hw)).1, hh.1⟩))
              clear hw
              have HM2 := hid (hFT.out.found HG.out HB.out (k := k) (by omega) HA.out HW.out hM.out)
              have hll := hFT.out.len HG.out hn
              have HO1 : Hid (BlksAt (wo.alloc (.cells #[.int .i64 f, .int .i64 (k : Int)] 36)) u3 l) := hid (hB.out.turned ((Turn.refl (fun _ => False) _).alloc _) (fun _ _ => id))
              have HC1 : Hid (BksAt (wo.alloc (.cells #[.int .i64 f, .int .i64 (k : Int)] 36)) wo.heap.size 0 [((f : Int), k)]) := hid (fun i t ht => by
                cases i with
                | zero => simp at ht; subst ht; exact ⟨by simp, by simp⟩
                | succ i => simp at ht)
              have HM1 : Hid (0 < [(((f : Int), k) : Bk)].length ∨ u3 ≠ .slice none 0 0) := hid (.inl (by simp))
              go_wp2_with fail
              refine HWh.out.mono ?_
              rintro e w1 ⟨rfl, rfl⟩
              go_wp2_with (at_builtin; refine wpList_append_bks rfl _ _ rfl u3 _ rfl HO1.out wo.heap.size 0 1 [((f : Int), k)] 1 rfl rfl HC1.out HM1.out (by rw [List.length_singleton]; omega) (l.length + 1) rfl ?_; intro g3 z3 w3 hi3 t3 ho3; have HI3 := hid hi3; have HT3 := hid t3; have HO3 := hid ho3; clear hi3 t3 ho3)
              go_roundw
              case rel =>
                refine ⟨((f : Int) + sz k).toNat, l ++ [((f : Int), k)], by omega, congrArg (Value.int IntKind.i64) (by omega), hid ?_, hid ?_, hid ?_, hid ?_⟩
                · have h1 := hFT.out.yes HG.out (k := k) (by omega) HM2.out
                  have e : ((((f : Int) + sz k).toNat : Nat) : Int) = f + sz k := by omega
                  rw [e]
                  exact h1
                · have h3 := HI3.out
                  unfold BlksAt
                  rw [List.length_append, List.length_singleton]
                  have h4 := h3
                  unfold BlksAt at h4
                  rw [List.length_append, List.length_singleton] at h4
                  exact h4
                · intro g' hg'
                  cases hg'
                  rcases HO3.out with h | h
                  · exact hO.out _ h
                  · have h1 := hT.out.size
                    simp at h; simp only; omega
                · exact (hT.out.alloc _).trans' HT3.out (fun k hk e => absurd (hO.out k e) (by omega))
              case measure => simp [intOf]; omega
            · have HWh := hid ((whole_is HR.out hn f (by omega) k hk6).mono (fun e w' hh => show e = _ ∧ wo = w' from ⟨(hh.2.resolve_left (fun h => hw h.2)).1, hh.1⟩))
              have HW := hid hw
              clear hw
              go_wp2_with fail
              refine HWh.out.mono ?_
              rintro e w1 ⟨rfl, rfl⟩
              have hk1 : 0 < k := by
                rcases Nat.eq_zero_or_pos k with h | h
                · exfalso
                  subst h
                  refine HW.out (fun f' h1 h2 => ?_)
                  have e0 : sz 0 = 1 := rfl
                  obtain rfl : f' = f := by omega
                  exact ⟨hlt, HGf.out⟩
                · exact h
              go_wp2_with fail
              go_round
              case rel => exact ⟨k - 1, congrArg (Value.int IntKind.i64) (by omega), by omega, hid (fun j h1 h2 => by
                rcases Nat.lt_or_ge k j with h3 | h3
                · exact hM.out j h3 h2
                · obtain rfl : j = k := by omega
                  exact fun h => HW.out h.2)⟩
              case measure => simp [intOf]; omega
          · have HA := hid ha
            have hd : decide ((f : Int) % sz k = 0) = false := decide_eq_false ha
            rw [hd] at hmd
            simp only [Bool.not_false] at hmd
            clear ha hd
            have hk1 : 0 < k := by
              rcases Nat.eq_zero_or_pos k with h | h
              · exfalso
                subst h
                refine HA.out ?_
                have e0 : sz 0 = 1 := rfl
                rw [e0, Int.emod_one]
              · exact h
            go_wp2_with fail
            go_round
            case rel => exact ⟨k - 1, congrArg (Value.int IntKind.i64) (by omega), by omega, hid (fun j h1 h2 => by
              rcases Nat.lt_or_ge k j with h3 | h3
              · exact hM.out j h3 h2
              · obtain rfl : j = k := by omega
                exact fun h => HA.out h.1)⟩
            case measure => simp [intOf]; omega
    · have hlt' : ¬ (f : Int) < n := by omega
      have hFO := hid (hFT.out.all HG.out (by omega))
      obtain ⟨a9, cap9, rfl⟩ := hB.out.slice
      go_wp2_with fail
      go_ret
      refine ⟨l, a9, cap9, hFO.out, rfl, ?_, hT.out⟩
      rcases hB.out.shape with ⟨h0, rfl⟩ | ⟨g9, cap', h0, _, _, hg9, hat⟩
      · exact .inl rfl
      · cases h0
        exact .inr ⟨g9, rfl, hO.out g9 rfl, hg9, hat⟩
end Go.Proofs.YtiohpmcedfbcgabDoor
