/- The reference's Victim over candidates, and that it answers as the program's. Conditions: each theorem's own premises. -/
import Derived.Test.YtiohpmcedfbcgaaOomMax
import Derived.Deep.QuietTactic
import Derived.BigQuiet
import Derived.Deep.DeepCutAuto
namespace Go.Proofs.Ytiohpmcedfbcgaa
open Go.RowKit
set_option linter.unusedVariables false

/-- The reference's fold: the best weight so far, and whose it is. -/
def refStep (s : Int × Int) (c : Cd) : Int × Int :=
  if oScore c.2.1 c.2.2 > s.1 ∨ (oScore c.2.1 c.2.2 = s.1 ∧ oScore c.2.1 c.2.2 > 0 ∧ c.1 > s.2) then (oScore c.2.1 c.2.2, c.1) else s
def refBest (l : List Cd) : Int × Int := l.foldl refStep (0, 0)
theorem refBest_take (xs : List Cd) (j : Nat) (c : Cd) (h : xs[j]? = some c) : refBest (xs.take (j + 1)) = refStep (refBest (xs.take j)) c := by
  unfold refBest
  rw [List.take_add_one, h]
  simp [List.foldl_append]

theorem oScore_max (r a : Int) : oScore r a ≤ 200000 := by
  unfold oScore
  generalize hR : min (max r 0) 1000 = R
  generalize hA : min (max a (-100)) 100 = A
  have := Int.mul_le_mul (a := R) (b := 100 + A) (c := 1000) (d := 200) (by omega) (by omega) (by omega) (by omega)
  omega

theorem refBest_bd (l : List Cd) : 0 ≤ (refBest l).1 ∧ (refBest l).1 ≤ 200000 := by
  unfold refBest
  suffices h : ∀ (s : Int × Int), 0 ≤ s.1 ∧ s.1 ≤ 200000 → 0 ≤ (l.foldl refStep s).1 ∧ (l.foldl refStep s).1 ≤ 200000 from h (0, 0) ⟨by decide, by decide⟩
  induction l with
  | nil => intro s h; exact h
  | cons c l ih =>
    intro s h
    refine ih _ ?_
    unfold refStep
    have := oScore_nonneg c.2.1 c.2.2
    have := oScore_max c.2.1 c.2.2
    split
    · exact ⟨by assumption, by assumption⟩
    · exact h

theorem cdCmp_pos (c m : Cd) : 0 < cdCmp c m ↔ (oScore m.2.1 m.2.2 < oScore c.2.1 c.2.2 ∨ (oScore c.2.1 c.2.2 = oScore m.2.1 m.2.2 ∧ m.1 < c.1)) := by
  unfold cdCmp oCmp orI cmpI
  (repeat' split) <;> omega

/-- The fold's invariant against the program's. -/
theorem best_agree (x : Cd) (xs : List Cd) : refBest (x :: xs) = (oScore (oBest x xs).2.1 (oBest x xs).2.2, if oScore (oBest x xs).2.1 (oBest x xs).2.2 = 0 then 0 else (oBest x xs).1) := by
  unfold refBest oBest
  rw [List.foldl_cons]
  suffices h : ∀ (m : Cd) (s : Int × Int), s = (oScore m.2.1 m.2.2, if oScore m.2.1 m.2.2 = 0 then 0 else m.1) →
      xs.foldl refStep s = (oScore (xs.foldl (fun m x => if 0 < cdCmp x m then x else m) m).2.1 (xs.foldl (fun m x => if 0 < cdCmp x m then x else m) m).2.2, if oScore (xs.foldl (fun m x => if 0 < cdCmp x m then x else m) m).2.1 (xs.foldl (fun m x => if 0 < cdCmp x m then x else m) m).2.2 = 0 then 0 else (xs.foldl (fun m x => if 0 < cdCmp x m then x else m) m).1) by
    refine h x _ ?_
    have := oScore_nonneg x.2.1 x.2.2
    unfold refStep
    by_cases e : oScore x.2.1 x.2.2 = 0
    · rw [if_neg (by simp only; omega), e]; simp
    · rw [if_pos (Or.inl (by simp only; omega)), if_neg e]
  induction xs with
  | nil => intro m s h; exact h
  | cons c xs ih =>
    intro m s h
    rw [List.foldl_cons, List.foldl_cons]
    refine ih _ _ ?_
    subst h
    have h0 := oScore_nonneg c.2.1 c.2.2
    have h1 := oScore_nonneg m.2.1 m.2.2
    have key := cdCmp_pos c m
    unfold refStep
    by_cases hgt : 0 < cdCmp c m
    · rw [if_pos hgt]
      have k := key.1 hgt
      by_cases e : oScore c.2.1 c.2.2 = 0
      · have e2 : oScore m.2.1 m.2.2 = 0 := by omega
        rw [if_neg (by simp only; omega), e2, e]; simp
      · rw [if_pos (by simp only; split <;> omega), if_neg e]
    · rw [if_neg hgt]
      have k : ¬ (oScore m.2.1 m.2.2 < oScore c.2.1 c.2.2 ∨ (oScore c.2.1 c.2.2 = oScore m.2.1 m.2.2 ∧ m.1 < c.1)) := fun h => hgt (key.2 h)
      rw [if_neg (by simp only; split <;> omega)]

/-- The reference and the program choose the same. -/
theorem victim_agree (l : List Cd) : oVictim l = ((refBest l).2, decide (0 < (refBest l).1)) := by
  cases l with
  | nil => rfl
  | cons x xs =>
    rw [best_agree]
    show (if oScore (oBest x xs).2.1 (oBest x xs).2.2 = 0 then (0, false) else ((oBest x xs).1, true)) = _
    have := oScore_nonneg (oBest x xs).2.1 (oBest x xs).2.2
    by_cases e : oScore (oBest x xs).2.1 (oBest x xs).2.2 = 0
    · rw [if_pos e, if_pos e]; simp [e]
    · rw [if_neg e, if_neg e]
      have : 0 < oScore (oBest x xs).2.1 (oBest x xs).2.2 := by omega
      simp [this]

theorem refVictim_none (a : Option Addr) (cap : Nat) (w : World) : Calls Try.prog 15 #[.slice a 0 cap] w fun e w' => e = .returned (.tuple #[.int .i64 0, .bool false]) ∧ w = w' := by
  go_enter Try.func15, Try.ntmps15
  go_wp2_with fail
  refine wp_loop_rounds 1 ?_
  rw [rounds_succ]
  go_wp2
  go_ret2
  exact ⟨rfl, rfl⟩

/-- A number cut to a range, as the text does it. -/
def clampI (x lo hi : Int) : Int := min (max x lo) hi

set_option maxHeartbeats 2000000 in
set_option maxRecDepth 100000 in
theorem refVictim_some (b off cap : Nat) (xs : List Cd) (w : World) (hc : CandsAt w b off xs) (hl : xs.length < 1000000) (hb : b < w.heap.size) :
    Calls Try.prog 15 #[.slice (some ⟨b, off, none⟩) xs.length cap] w fun e w' => e = .returned (.tuple #[.int .i64 (refBest xs).2, .bool (decide (0 < (refBest xs).1))]) ∧ Turn (fun _ => False) w w' := by
  have HC := hid hc
  clear hc
  go_enter Try.func15, Try.ntmps15
  go_wp2_with fail
  go_loopw [4, 5, 13] (fun be pi i wr => ∃ j : Nat, j ≤ xs.length ∧ i = .int .i64 j ∧ be = .int .i64 (refBest (xs.take j)).1 ∧ pi = .int .i64 (refBest (xs.take j)).2 ∧ Turn (fun _ => False) w wr) (fun _ _ i _ => xs.length - (intOf i).toNat)
  case atStart => exact ⟨0, Nat.zero_le _, rfl, rfl, rfl, Turn.refl _ _⟩
  case round =>
    obtain ⟨j, hj, rfl, rfl, rfl, hT⟩ := hrel
    have hbd := refBest_bd (xs.take j)
    by_cases hlt : j < xs.length
    · obtain ⟨c, hcj⟩ : ∃ c, xs[j]? = some c := ⟨_, List.getElem?_eq_getElem hlt⟩
      have HS := hid (refBest_take xs j c hcj)
      obtain ⟨d0, d1, d2⟩ := HC.out.turned hT hb id j c hcj
      generalize refBest (xs.take j) = m at HS hbd
      obtain ⟨m1, m2⟩ := m
      obtain ⟨hb0, hb1⟩ := hbd
      have HT := hid hT
      clear hcj hT
      simp only at hb0 hb1
      go_upto_if 22 with (go_quiet (fail))
      have hcell : ((wr.alloc (.cells #[.int .i64 c.1, .int .i64 c.2.1, .int .i64 c.2.2] 39)).drewN nq).cell? ⟨wr.heap.size, 0, none⟩ = some (.int .i64 c.1) := by
        rw [World.cell?_drewN]; exact World.cell?_alloc_new _ _ _ _
      have HT1 : Hid (Turn (fun _ => False) w ((wr.alloc (.cells #[.int .i64 c.1, .int .i64 c.2.1, .int .i64 c.2.2] 39)).drewN nq)) := hid ((HT.out.alloc _).drewN _)
      clear d0 d1 d2 HT
      generalize ((wr.alloc (.cells #[.int .i64 c.1, .int .i64 c.2.1, .int .i64 c.2.2] 39)).drewN nq) = W at hcell HT1
      obtain ⟨R0, hR0⟩ : ∃ R0, R0 = max c.2.1 0 := ⟨_, rfl⟩
      obtain ⟨R1, hR1⟩ : ∃ R1, R1 = min R0 1000 := ⟨_, rfl⟩
      obtain ⟨A0, hA0⟩ : ∃ A0, A0 = max c.2.2 (-100) := ⟨_, rfl⟩
      obtain ⟨A1, hA1⟩ : ∃ A1, A1 = min A0 100 := ⟨_, rfl⟩
      have HE : Hid (R0 = max c.2.1 0 ∧ R1 = min R0 1000 ∧ A0 = max c.2.2 (-100) ∧ A1 = min A0 100) := hid ⟨hR0, hR1, hA0, hA1⟩
      clear hR0 hR1 hA0 hA1
      go_cut [8] (fun v wx => v = .int .i64 R0 ∧ W = wx)
      case first =>
        go_wp2
        all_goals go_meet
        all_goals exact ⟨by have := HE.out; congr 1; omega, rfl⟩
      case rest =>
        obtain ⟨rfl, rfl⟩ := hcut
        go_upto_if 24 with fail
        go_cut [8] (fun v wx => v = .int .i64 R1 ∧ W = wx)
        case first =>
          go_wp2
          all_goals go_meet
          all_goals exact ⟨by have := HE.out; congr 1; omega, rfl⟩
        case rest =>
          obtain ⟨rfl, rfl⟩ := hcut
          go_upto_if 26 with fail
          go_cut [9] (fun v wx => v = .int .i64 A0 ∧ W = wx)
          case first =>
            go_wp2
            all_goals go_meet
            all_goals exact ⟨by have := HE.out; congr 1; omega, rfl⟩
          case rest =>
            obtain ⟨rfl, rfl⟩ := hcut
            go_upto_if 28 with fail
            go_cut [9] (fun v wx => v = .int .i64 A1 ∧ W = wx)
            case first =>
              go_wp2
              all_goals go_meet
              all_goals exact ⟨by have := HE.out; congr 1; omega, rfl⟩
            case rest =>
              obtain ⟨rfl, rfl⟩ := hcut
              have hs : Hid (oScore c.2.1 c.2.2 = R1 * (100 + A1)) := hid (by
                have e := HE.out
                have e1 : min (max c.2.1 0) 1000 = R1 := by omega
                have e2 : min (max c.2.2 (-100)) 100 = A1 := by omega
                have : 0 ≤ R1 * (100 + A1) := Int.mul_nonneg (by omega) (by omega)
                unfold oScore; rw [e1, e2]; omega)
              have r0 : 0 ≤ R1 := by have := HE.out; omega
              have r1 : R1 ≤ 1000 := by have := HE.out; omega
              have r2 : -100 ≤ A1 := by have := HE.out; omega
              have r3 : A1 ≤ 100 := by have := HE.out; omega
              have p0 : 0 ≤ R1 * (100 + A1) := Int.mul_nonneg r0 (by omega)
              have p1 : R1 * (100 + A1) ≤ 200000 := by
                have := Int.mul_le_mul (a := R1) (b := 100 + A1) (c := 1000) (d := 200) r1 (by omega) (by omega) (by omega)
                omega
              clear HE
              by_cases k1 : m1 < R1 * (100 + A1)
              · have HN : Hid (refStep (m1, m2) c = (R1 * (100 + A1), c.1)) := hid (by unfold refStep; rw [hs.out, if_pos (by simp only; omega)])
                go_wp2_with (go_quiet (fail))
                go_roundw
                case rel => exact ⟨j + 1, by omega, by go_num, by rw [HS.out, HN.out], by rw [HS.out, HN.out], by first | exact HT1.out | exact HT1.out.drewN _⟩
                case measure => simp [intOf]; omega
              · by_cases k2 : R1 * (100 + A1) = m1
                · by_cases k3 : 0 < R1 * (100 + A1)
                  · by_cases k4 : m2 < c.1
                    · have HN : Hid (refStep (m1, m2) c = (R1 * (100 + A1), c.1)) := hid (by unfold refStep; rw [hs.out, if_pos (by simp only; omega)])
                      have b2 : (R1 * (100 + A1) == m1) = true := beq_iff_eq.2 k2
                      clear k2
                      go_wp2_with (go_quiet (fail))
                      go_roundw
                      case rel => exact ⟨j + 1, by omega, by go_num, by rw [HS.out, HN.out], by rw [HS.out, HN.out], by first | exact HT1.out | exact HT1.out.drewN _⟩
                      case measure => simp [intOf]; omega
                    · have HN : Hid (refStep (m1, m2) c = (m1, m2)) := hid (by unfold refStep; rw [hs.out, if_neg (by simp only; omega)])
                      have b2 : (R1 * (100 + A1) == m1) = true := beq_iff_eq.2 k2
                      clear k2
                      go_wp2_with (go_quiet (fail))
                      go_roundw
                      case rel => exact ⟨j + 1, by omega, by go_num, by rw [HS.out, HN.out], by rw [HS.out, HN.out], by first | exact HT1.out | exact HT1.out.drewN _⟩
                      case measure => simp [intOf]; omega
                  · have HN : Hid (refStep (m1, m2) c = (m1, m2)) := hid (by unfold refStep; rw [hs.out, if_neg (by simp only; omega)])
                    have b2 : (R1 * (100 + A1) == m1) = true := beq_iff_eq.2 k2
                    clear k2
                    go_wp2_with (go_quiet (fail))
                    go_roundw
                    case rel => exact ⟨j + 1, by omega, by go_num, by rw [HS.out, HN.out], by rw [HS.out, HN.out], by first | exact HT1.out | exact HT1.out.drewN _⟩
                    case measure => simp [intOf]; omega
                · have HN : Hid (refStep (m1, m2) c = (m1, m2)) := hid (by unfold refStep; rw [hs.out, if_neg (by simp only; omega)])
                  have b2 : (R1 * (100 + A1) == m1) = false := beq_eq_false_iff_ne.2 k2
                  clear k2
                  go_wp2_with (go_quiet (fail))
                  go_roundw
                  case rel => exact ⟨j + 1, by omega, by go_num, by rw [HS.out, HN.out], by rw [HS.out, HN.out], by first | exact HT1.out | exact HT1.out.drewN _⟩
                  case measure => simp [intOf]; omega
    · have hj' : j = xs.length := by omega
      subst hj'
      rw [List.take_length] at hbd ⊢
      go_wp2_with fail
      go_ret2
      exact ⟨rfl, hT⟩

end Go.Proofs.Ytiohpmcedfbcgaa
