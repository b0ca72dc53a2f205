/- The contract of acct's Charge: all or nothing. Conditions: the ledger within bounds; what is asked lies in memory. -/
import Derived.Test.YtiohpmcedfbcgaaDoorAcct
namespace Go.Proofs.YtiohpmcedfbcgaaDoor
open Go.RowKit
set_option linter.unusedVariables false

/-- Asks (of which kind, how much more) lie from off on in block b. -/
def AsksAt (w : World) (b off : Nat) (xs : List (Int × Int)) : Prop :=
  ∀ j x, xs[j]? = some x → w.cell? ⟨b, off + j * 2, none⟩ = some (.int .i64 x.1) ∧ w.cell? ⟨b, off + j * 2 + 1, none⟩ = some (.int .i64 x.2)
theorem AsksAt.turned {w w' : World} {b off : Nat} {xs : List (Int × Int)} {S : Nat → Prop} (h : AsksAt w b off xs) (t : Turn S w w') (hb : b < w.heap.size) (hn : ¬ S b) : AsksAt w' b off xs :=
  fun j f hf => ⟨(t.cell (a := ⟨b, off + j * 2, none⟩) hb hn).trans (h j f hf).1, (t.cell (a := ⟨b, off + j * 2 + 1, none⟩) hb hn).trans (h j f hf).2⟩

/-- What is wrong with an ask (0: nothing). -/
def why (u m : Nat → Int) (x : Int × Int) : Int :=
  if x.1 < 0 ∨ 3 ≤ x.1 then 1 else if x.2 < -1000000 ∨ 1000000 < x.2 then 2 else if 0 < x.2 ∧ m x.1.toNat < u x.1.toNat + x.2 then 4 else if u x.1.toNat + x.2 < 0 then 6 else 0
def done (u : Nat → Int) (x : Int × Int) : Nat → Int := upd u x.1.toNat (u x.1.toNat + x.2)
/-- Asks, one by one: the first that is wrong, and what is; or how much there is then. -/
def chg (m : Nat → Int) : (Nat → Int) → List (Int × Int) → Nat → (Int × Nat) ⊕ (Nat → Int)
  | u, [], _ => .inr u
  | u, x :: xs, i => if why u m x = 0 then chg m (done u x) xs (i + 1) else .inl (why u m x, i)
theorem chg_snoc (m : Nat → Int) : ∀ (xs : List (Int × Int)) (u v : Nat → Int) (i : Nat) (ys : List (Int × Int)), chg m u xs i = .inr v → chg m u (xs ++ ys) i = chg m v ys (i + xs.length)
  | [], u, v, i, ys, h => by simp only [chg, Sum.inr.injEq] at h; subst h; simp
  | x :: xs, u, v, i, ys, h => by
    simp only [List.cons_append, chg] at h ⊢
    split at h
    · rename_i h0
      rw [if_pos h0, chg_snoc m xs _ v _ ys h]
      simp only [List.length_cons]
      rw [show i + 1 + xs.length = i + (xs.length + 1) by omega]
    · cases h
theorem fit_done {u m : Nat → Int} (h : Fit u m) {x : Int × Int} (h0 : why u m x = 0) : Fit (done u x) m := by
  intro k hk
  obtain ⟨a, b, c, d⟩ := h k hk
  unfold done
  by_cases e : k = x.1.toNat
  · subst e
    rw [upd_same]
    unfold why at h0
    split at h0
    · cases h0
    · split at h0
      · cases h0
      · split at h0
        · cases h0
        · split at h0
          · cases h0
          · rename_i _ _ h3 h4
            refine ⟨by omega, ?_, c, d⟩
            by_cases hx : 0 < x.2
            · simp only [not_and] at h3; have := h3 hx; omega
            · omega
  · rw [upd_other _ _ e]; exact ⟨a, b, c, d⟩

structure NowIs (w : World) (nb : Nat) (v : Nat → Int) : Prop where
  c : ∀ k, k < 3 → w.cell? ⟨nb, k, none⟩ = some (.int .i64 (v k))
  f : ∀ k, w.frozen? ⟨nb, k, none⟩ = false
theorem NowIs.turned {w w' : World} {nb : Nat} {v : Nat → Int} {S : Nat → Prop} (h : NowIs w nb v) (t : Turn S w w') (hn : ¬ S nb) : NowIs w' nb v :=
  ⟨fun k hk => (t.cell (a := ⟨nb, k, none⟩) (lt_of_cell (h.c k hk)) hn).trans (h.c k hk), fun k => (t.frozen (a := ⟨nb, k, none⟩) (show nb < _ from lt_of_cell (h.c 0 (by decide))) hn).trans (h.f k)⟩
theorem NowIs.set {w : World} {nb : Nat} {v : Nat → Int} (h : NowIs w nb v) (k : Nat) (hk : k < 3) (n : Int) : NowIs (w.setCell ⟨nb, k, none⟩ (.int .i64 n)) nb (upd v k n) := by
  refine ⟨fun j hj => ?_, fun j => by rw [World.frozen?_setCell]; exact h.f j⟩
  by_cases e : j = k
  · subst e; rw [upd_same]; exact World.cell?_setCell_same _ _ _ (h.c j hj)
  · rw [World.cell?_setCell_other _ _ _ _ (by intro e; injection e with _ e; omega), upd_other _ _ e]; exact h.c j hj

theorem at_cell0 (w : World) (o : Obj) (x y : Value) (t : TypeId) : ((w.alloc o).alloc (.cells #[x, y] t)).cell? ⟨w.heap.size + 1, 0, none⟩ = some x := by
  rw [show w.heap.size + 1 = (w.alloc o).heap.size from (World.size_alloc _ _).symm]; exact World.cell?_alloc_new _ _ _ _
theorem at_cell1 (w : World) (o : Obj) (x y : Value) (t : TypeId) : ((w.alloc o).alloc (.cells #[x, y] t)).cell? ⟨w.heap.size + 1, 1, none⟩ = some y := by
  rw [show w.heap.size + 1 = (w.alloc o).heap.size from (World.size_alloc _ _).symm]; exact World.cell?_alloc_new _ _ _ _

theorem LedgerIs.setUsed {w : World} {p : Nat} {u m : Nat → Int} (h : LedgerIs w p u m) (k : Nat) (hk : k < 3) (n : Int) : LedgerIs (w.setCell ⟨p, k, none⟩ (.int .i64 n)) p (upd u k n) m := by
  refine ⟨fun j hj => ?_, fun j hj => ?_, fun i => by rw [World.frozen?_setCell]; exact h.fz i⟩
  · by_cases e : j = k
    · subst e; rw [upd_same]; exact World.cell?_setCell_same _ _ _ (h.cu j hj)
    · rw [World.cell?_setCell_other _ _ _ _ (by intro e; injection e with _ e; omega), upd_other _ _ e]; exact h.cu j hj
  · rw [World.cell?_setCell_other _ _ _ _ (by intro e; injection e with _ e; omega)]; exact h.cm j hj
theorem LedgerIs.same {w : World} {p : Nat} {u u' m : Nat → Int} (h : LedgerIs w p u m) (he : ∀ k, k < 3 → u k = u' k) : LedgerIs w p u' m := ⟨fun k hk => by rw [← he k hk]; exact h.cu k hk, h.cm, h.fz⟩
theorem LedgerIs.setAll {w : World} {p : Nat} {u m : Nat → Int} (h : LedgerIs w p u m) (v : Nat → Int) : LedgerIs (((w.setCell ⟨p, 0, none⟩ (.int .i64 (v 0))).setCell ⟨p, 1, none⟩ (.int .i64 (v 1))).setCell ⟨p, 2, none⟩ (.int .i64 (v 2))) p v m :=
  (((h.setUsed 0 (by decide) (v 0)).setUsed 1 (by decide) (v 1)).setUsed 2 (by decide) (v 2)).same (fun k hk => by
    match k, hk with
    | 0, _ => simp [upd]
    | 1, _ => simp [upd]
    | 2, _ => simp [upd])
theorem turn_set1 (w : World) (p i : Nat) (v : Value) : Turn (fun k => k = p) w (w.setCell ⟨p, i, none⟩ v) := (Turn.refl _ _).setCell _ _ (fun _ => rfl)
theorem turn_setAll (w : World) (p : Nat) (a b c : Value) : Turn (fun j => j = p) w (((w.setCell ⟨p, 0, none⟩ a).setCell ⟨p, 1, none⟩ b).setCell ⟨p, 2, none⟩ c) :=
  ((turn_set1 w p 0 a).trans (turn_set1 _ p 1 b)).trans (turn_set1 _ p 2 c)

def ChargeBad (m u : Nat → Int) (xs : List (Int × Int)) (w : World) (e : Ending) (w' : World) : Prop :=
  ∃ (er : Int) (i b : Nat), chg m u xs 0 = .inl (er, i) ∧ er ≠ 0 ∧ e = .returned (.iface 106 (.pointer (some ⟨b, 0, none⟩))) ∧ w'.cell? ⟨b, 0, none⟩ = some (.int .i64 er) ∧ w'.cell? ⟨b, 1, none⟩ = some (.int .i64 i) ∧ w.heap.size ≤ b ∧ Turn (fun _ => False) w w'
def ChargeFine (p : Nat) (m u : Nat → Int) (xs : List (Int × Int)) (w : World) (e : Ending) (w' : World) : Prop :=
  ∃ v, chg m u xs 0 = .inr v ∧ Fit v m ∧ e = .returned .nilIface ∧ LedgerIs w' p v m ∧ Turn (fun j => j = p) w w'
def ChargeRes (p : Nat) (m u : Nat → Int) (xs : List (Int × Int)) (w : World) (e : Ending) (w' : World) : Prop := ChargeFine p m u xs w e w' ∨ ChargeBad m u xs w e w'

set_option maxHeartbeats 8000000 in
set_option maxRecDepth 100000 in
theorem charge_any {w : World} {p : Nat} {u m : Nat → Int} (h : LedgerIs w p u m) (hf : Fit u m) (a : Option Addr) (xs : List (Int × Int)) (cap : Nat) (hl : xs.length ≤ 1000000)
    (hc : xs ≠ [] → ∃ b off, a = some ⟨b, off, none⟩ ∧ AsksAt w b off xs ∧ b < w.heap.size) :
    Calls Tryd.prog 21 #[.pointer (some ⟨p, 0, none⟩), .slice a xs.length cap] w (ChargeRes p m u xs w) := by
  have HL := hid h
  have HF := hid hf
  have HC := hid hc
  have hltp := h.lt
  have c0 := h.cu 0 (by decide)
  have c1 := h.cu 1 (by decide)
  have c2 := h.cu 2 (by decide)
  have HN : Hid (NowIs (w.alloc (.cells #[.int .i64 (u 0), .int .i64 (u 1), .int .i64 (u 2)] 43)) w.heap.size u) := hid ⟨fun k hk => by
    match k, hk with
    | 0, _ => simp
    | 1, _ => simp
    | 2, _ => simp, fun k => by simp⟩
  have HT0 : Hid (Turn (fun _ => False) w (w.alloc (.cells #[.int .i64 (u 0), .int .i64 (u 1), .int .i64 (u 2)] 43))) := hid ((Turn.refl _ _).alloc _)
  clear h hf hc
  go_enter Tryd.func21, Tryd.ntmps21
  go_wp2_with fail
  go_loopw [15] (fun i wr => ∃ (j : Nat) (v : Nat → Int), j ≤ xs.length ∧ i = .int .i64 j ∧ Hid (chg m u (xs.take j) 0 = .inr v) ∧ Hid (Fit v m) ∧ Hid (NowIs wr w.heap.size v) ∧ Hid (Turn (fun _ => False) w wr)) (fun i _ => xs.length - (intOf i).toNat)
  case atStart => exact ⟨0, u, Nat.zero_le _, rfl, hid rfl, HF, HN, HT0⟩
  case round =>
    clear HN HT0
    obtain ⟨j, v, hj, rfl, hR, hF, hN, hT⟩ := hrel
    by_cases hlt : j < xs.length
    · obtain ⟨x, hx⟩ : ∃ x, xs[j]? = some x := ⟨_, List.getElem?_eq_getElem hlt⟩
      obtain ⟨b, off, rfl, hA, hb⟩ := HC.out (by rintro rfl; simp at hlt)
      obtain ⟨d0, d1⟩ := hA.turned hT.out hb id j _ hx
      have hblt := Nat.lt_of_lt_of_le hb hT.out.size
      obtain ⟨k, n⟩ := x
      simp only at d0 d1
      have HX := hid hx
      clear hA hx
      have HB : Hid (∀ er, er ≠ 0 → why v m (k, n) = er → chg m u xs 0 = .inl (er, j)) := hid (fun er h0 he => by
        have e1 : xs = xs.take j ++ (k, n) :: xs.drop (j + 1) := by
          obtain ⟨_, h2⟩ := List.getElem?_eq_some_iff.1 HX.out
          rw [← h2, List.getElem_cons_drop]; simp
        have h3 := chg_snoc m _ u v 0 ((k, n) :: xs.drop (j + 1)) hR.out
        rw [← e1] at h3
        rw [h3]
        simp only [chg]
        rw [if_neg (by rw [he]; exact h0), he]
        congr 2
        rw [List.length_take]; omega)
      by_cases hk : k < 0 ∨ 3 ≤ k
      · have HW := hid (HB.out 1 (by decide) (by unfold why; rw [if_pos hk]))
        have HRt := hid (right_no k hk)
        clear hk
        go_wp2_with fail
        refine (HRt.out _).mono ?_
        rintro e w1 ⟨rfl, rfl⟩
        go_wp2_with fail
        go_ret
        exact .inr ⟨_, j, _, HW.out, by decide, rfl, at_cell0 _ _ _ _ _, at_cell1 _ _ _ _ _, by have := hT.out.size; simp; omega, ((hT.out.alloc _).alloc _)⟩
      · obtain ⟨kk, rfl⟩ : ∃ kk : Nat, k = kk := ⟨k.toNat, by omega⟩
        have hk3 : kk < 3 := by omega
        have hk3' : (kk : Int) < 3 := by omega
        have HK := hid hk
        have HRt := hid (right_yes kk hk3)
        have n0 := hN.out.c kk hk3
        have nf := hN.out.f kk
        have m0 := (HL.out.turned hT.out id).cm kk hk3
        have hpw := (HL.out.turned hT.out id).lt
        have hnw : w.heap.size < wr.heap.size := lt_of_cell (hN.out.c 0 (by decide))
        obtain ⟨f1, f2, f3, f4⟩ := hF.out kk hk3
        clear hk
        by_cases hr : n < -1000000 ∨ 1000000 < n
        · have HW := hid (HB.out 2 (by decide) (by unfold why; rw [if_neg HK.out, if_pos hr]))
          rcases hr with hr | hr
          · go_wp2_with fail
            refine (HRt.out _).mono ?_
            rintro e w1 ⟨rfl, rfl⟩
            go_wp2_with fail
            go_ret
            exact .inr ⟨_, j, _, HW.out, by decide, rfl, at_cell0 _ _ _ _ _, at_cell1 _ _ _ _ _, by have := hT.out.size; simp; omega, ((hT.out.alloc _).alloc _)⟩
          · have hr2 : ¬ n < -1000000 := by omega
            go_wp2_with fail
            refine (HRt.out _).mono ?_
            rintro e w1 ⟨rfl, rfl⟩
            go_wp2_with fail
            go_ret
            exact .inr ⟨_, j, _, HW.out, by decide, rfl, at_cell0 _ _ _ _ _, at_cell1 _ _ _ _ _, by have := hT.out.size; simp; omega, ((hT.out.alloc _).alloc _)⟩
        · have hr1 : ¬ n < -1000000 := by omega
          have hr2 : ¬ 1000000 < n := by omega
          have HR := hid hr
          clear hr
          have hs : IntKind.i64.wrap (v kk + n) = v kk + n := IntWalk.i64_in _ (by omega)
          have HS := hid hs
          clear hs
          by_cases hov : 0 < n ∧ m kk < v kk + n
          · have HW := hid (HB.out 4 (by decide) (by unfold why; rw [if_neg HK.out, if_neg HR.out, if_pos (by simpa using hov)]))
            obtain ⟨o1, o2⟩ := hov
            have hs := HS.out
            go_wp2_with fail
            refine (HRt.out _).mono ?_
            rintro e w1 ⟨rfl, rfl⟩
            go_wp2_with fail
            go_quiet (fail)
            go_wp2_with fail
            go_ret
            exact .inr ⟨_, j, _, HW.out, by decide, rfl, at_cell0 _ _ _ _ _, at_cell1 _ _ _ _ _, by have := hT.out.size; simp; omega, (((hT.out.alloc _).alloc _).drewN _)⟩
          · have HO := hid hov
            by_cases hneg : v kk + n < 0
            · have hn0 : decide (0 < n) = false := by rw [decide_eq_false_iff_not]; omega
              have hn1 : ¬ 0 < n := by omega
              have HW := hid (HB.out 6 (by decide) (by unfold why; rw [if_neg HK.out, if_neg HR.out, if_neg (by simpa using hov), if_pos (by simpa using hneg)]))
              clear hov
              have hs := HS.out
              go_wp2_with fail
              refine (HRt.out _).mono ?_
              rintro e w1 ⟨rfl, rfl⟩
              go_wp2_with fail
              go_quiet (fail)
              go_wp2_with fail
              go_quiet (fail)
              go_wp2_with fail
              go_ret
              exact .inr ⟨_, j, _, HW.out, by decide, rfl, at_cell0 _ _ _ _ _, at_cell1 _ _ _ _ _, by have := hT.out.size; simp; omega, (((hT.out.alloc _).drewN _).alloc _)⟩
            · have HW0 : Hid (why v m ((kk : Int), n) = 0) := hid (by unfold why; rw [if_neg HK.out, if_neg HR.out, if_neg (by simpa using hov), if_neg (by simpa using hneg)])
              by_cases hn1 : 0 < n
              · have hle : ¬ m kk < v kk + n := fun h => hov ⟨hn1, h⟩
                clear hov
                have hs := HS.out
                go_wp2_with fail
                refine (HRt.out _).mono ?_
                rintro e w1 ⟨rfl, rfl⟩
                go_wp2_with fail
                go_quiet (fail)
                obtain ⟨nq1, rfl⟩ : ∃ x : Nat, x = nq := ⟨_, rfl⟩
                go_wp2_with fail
                go_quiet (fail)
                obtain ⟨nq2, rfl⟩ : ∃ x : Nat, x = nq := ⟨_, rfl⟩
                go_wp2_with fail
                have hTa : Turn (fun _ => False) w ((wr.alloc (.cells #[.int .i64 (kk : Int), .int .i64 n] 51)).drewN (nq1 + nq2)) := (hT.out.alloc _).drewN _
                have q0 : ((wr.alloc (.cells #[.int .i64 (kk : Int), .int .i64 n] 51)).drewN (nq1 + nq2)).cell? ⟨wr.heap.size, 0, none⟩ = some (.int .i64 (kk : Int)) := World.cell?_alloc_new _ _ _ _
                have q1 : ((wr.alloc (.cells #[.int .i64 (kk : Int), .int .i64 n] 51)).drewN (nq1 + nq2)).cell? ⟨wr.heap.size, 1, none⟩ = some (.int .i64 n) := World.cell?_alloc_new _ _ _ _
                have hNa : NowIs ((wr.alloc (.cells #[.int .i64 (kk : Int), .int .i64 n] 51)).drewN (nq1 + nq2)) w.heap.size v := hN.out.turned (((Turn.refl (fun _ => False) wr).alloc _).drewN _) id
                generalize (wr.alloc (.cells #[.int .i64 (kk : Int), .int .i64 n] 51)).drewN (nq1 + nq2) = Wa at *
                have n0' := hNa.c kk hk3
                have nf' := hNa.f kk
                have HTa := hid hTa
                have HNa := hid hNa
                clear hTa hNa n0 nf m0
                go_region
                all_goals
                  go_wp2_with fail
                  go_roundw
                  case rel =>
                    refine ⟨j + 1, done v ((kk : Int), n), by omega, by go_num, hid ?_, hid (fit_done hF.out HW0.out), hid ?_, hid ?_⟩
                    · rw [List.take_add_one, HX.out]
                      have h3 := chg_snoc m _ u v 0 [((kk : Int), n)] hR.out
                      simp only [chg] at h3
                      rw [if_pos HW0.out] at h3
                      exact h3
                    · exact ⟨(HNa.out.set kk hk3 (v kk + n)).c, (HNa.out.set kk hk3 (v kk + n)).f⟩
                    · exact ((HTa.out.trans' ((Turn.refl (fun k => k = w.heap.size) Wa).setCell ⟨w.heap.size, kk, none⟩ (.int .i64 (v kk + n)) (fun _ => rfl)) (fun k hk e => by omega)).drew)
                  case measure => simp [intOf]; omega
              · have hn0 : decide (0 < n) = false := by rw [decide_eq_false_iff_not]; omega
                clear hov
                have hs := HS.out
                go_wp2_with fail
                refine (HRt.out _).mono ?_
                rintro e w1 ⟨rfl, rfl⟩
                go_wp2_with fail
                go_quiet (fail)
                obtain ⟨nq1, rfl⟩ : ∃ x : Nat, x = nq := ⟨_, rfl⟩
                go_wp2_with fail
                go_quiet (fail)
                obtain ⟨nq2, rfl⟩ : ∃ x : Nat, x = nq := ⟨_, rfl⟩
                go_wp2_with fail
                have hTa : Turn (fun _ => False) w ((wr.alloc (.cells #[.int .i64 (kk : Int), .int .i64 n] 51)).drewN (nq1 + nq2)) := (hT.out.alloc _).drewN _
                have q0 : ((wr.alloc (.cells #[.int .i64 (kk : Int), .int .i64 n] 51)).drewN (nq1 + nq2)).cell? ⟨wr.heap.size, 0, none⟩ = some (.int .i64 (kk : Int)) := World.cell?_alloc_new _ _ _ _
                have q1 : ((wr.alloc (.cells #[.int .i64 (kk : Int), .int .i64 n] 51)).drewN (nq1 + nq2)).cell? ⟨wr.heap.size, 1, none⟩ = some (.int .i64 n) := World.cell?_alloc_new _ _ _ _
                have hNa : NowIs ((wr.alloc (.cells #[.int .i64 (kk : Int), .int .i64 n] 51)).drewN (nq1 + nq2)) w.heap.size v := hN.out.turned (((Turn.refl (fun _ => False) wr).alloc _).drewN _) id
                generalize (wr.alloc (.cells #[.int .i64 (kk : Int), .int .i64 n] 51)).drewN (nq1 + nq2) = Wa at *
                have n0' := hNa.c kk hk3
                have nf' := hNa.f kk
                have HTa := hid hTa
                have HNa := hid hNa
                clear hTa hNa n0 nf m0
                go_region
                all_goals
                  go_wp2_with fail
                  go_roundw
                  case rel =>
                    refine ⟨j + 1, done v ((kk : Int), n), by omega, by go_num, hid ?_, hid (fit_done hF.out HW0.out), hid ?_, hid ?_⟩
                    · rw [List.take_add_one, HX.out]
                      have h3 := chg_snoc m _ u v 0 [((kk : Int), n)] hR.out
                      simp only [chg] at h3
                      rw [if_pos HW0.out] at h3
                      exact h3
                    · exact ⟨(HNa.out.set kk hk3 (v kk + n)).c, (HNa.out.set kk hk3 (v kk + n)).f⟩
                    · exact ((HTa.out.trans' ((Turn.refl (fun k => k = w.heap.size) Wa).setCell ⟨w.heap.size, kk, none⟩ (.int .i64 (v kk + n)) (fun _ => rfl)) (fun k hk e => by omega)).drew)
                  case measure => simp [intOf]; omega
    · have hje : j = xs.length := by omega
      subst hje
      have n0 := hN.out.c 0 (by decide)
      have n1 := hN.out.c 1 (by decide)
      have n2 := hN.out.c 2 (by decide)
      have HLw := HL.out.turned hT.out id
      have l0 := HLw.cu 0 (by decide)
      have l1 := HLw.cu 1 (by decide)
      have l2 := HLw.cu 2 (by decide)
      have z0 := HLw.fz 0
      have z1 := HLw.fz 1
      have z2 := HLw.fz 2
      have HLW := hid HLw
      rw [List.take_length] at hR
      clear HLw
      go_wp2_with fail
      go_ret
      refine .inl ⟨v, hR.out, hF.out, rfl, ?_, ?_⟩
      · exact HLW.out.setAll v
      · exact (hT.out.mono fun _ _ h => h.elim).trans (turn_setAll wr p _ _ _)
end Go.Proofs.YtiohpmcedfbcgaaDoor
