/- The document's pool: Alloc takes what its own choice is. Conditions: each theorem's own premises. -/
import Derived.Test.YtiohpmcedfbcgabDoorRefFree
import Derived.Deep.QuietTactic
import Derived.BigQuiet
import Derived.BigRegion
namespace Go.Proofs.YtiohpmcedfbcgabDoor
open Go.RowKit
set_option linter.unusedVariables false

theorem refAlloc_arg {w : World} (p : Nat) (o : Int) (h : o < 0 ∨ 6 < o) :
    Calls Tryd.prog 26 #[.pointer (some ⟨p, 0, none⟩), .int .i64 o] w fun e w' => e = .returned (.tuple #[.int .i64 0, .int .i64 1]) ∧ w = w' := by
  have e : decide (0 ≤ o ∧ o ≤ 6) = false := decide_eq_false (by omega)
  have HB := hid (between o 0 6)
  rw [e] at HB
  clear h e
  go_enter Tryd.func26, Tryd.ntmps26
  go_wp2_with fail
  refine (HB.out w).mono ?_
  rintro e w' ⟨rfl, rfl⟩
  go_wp2_with fail
  go_ret2
  exact ⟨rfl, rfl⟩

/-- What Alloc answers if its choice is m. -/
def RefAllocRes (p fb mb cp n : Nat) (g : Bits) (tk : List Bk) (o : Nat) (m : Int × Int) (w : World) (e : Ending) (w' : World) : Prop :=
  (m.1 < 0 ∧ e = .returned (.tuple #[.int .i64 0, .int .i64 12]) ∧ Turn (fun _ => False) w w') ∨
  (0 ≤ m.1 ∧ e = .returned (.tuple #[.int .i64 m.1, .int .i64 0]) ∧ RefAt w' p fb mb cp n (fill g m.1 (m.1 + sz o) false) (mput tk m.1 o) ∧ Turn (fun j => j = fb ∨ j = mb) w w')
theorem best_set {w : World} {A : Nat} {x y : Value} (h0 : w.cell? ⟨A, 0, none⟩ = some x) (h1 : w.cell? ⟨A, 1, none⟩ = some y) (u v : Value) (o : Obj) : (((w.setCell ⟨A, 0, none⟩ u).setCell ⟨A, 1, none⟩ v).alloc o).cell? ⟨A, 0, none⟩ = some u ∧ (((w.setCell ⟨A, 0, none⟩ u).setCell ⟨A, 1, none⟩ v).alloc o).cell? ⟨A, 1, none⟩ = some v := by
  have hb : A < w.heap.size := lt_of_cell h0
  refine ⟨?_, ?_⟩
  · rw [World.cell?_alloc_lt _ _ _ (by simpa using hb), World.cell?_setCell_other _ _ _ _ (by simp)]
    exact World.cell?_setCell_same _ _ _ h0
  · rw [World.cell?_alloc_lt _ _ _ (by simpa using hb)]
    exact World.cell?_setCell_same _ _ _ (by rw [World.cell?_setCell_other _ _ _ _ (by simp)]; exact h1)

set_option maxHeartbeats 8000000 in
set_option maxRecDepth 100000 in
theorem refAlloc_any {w : World} {p fb mb cp n : Nat} {g : Bits} {tk : List Bk} {fr : Fr} (h : RefAt w p fb mb cp n g tk) (hg : Good n fr tk) (hb : BitsOf n tk g) (hn : n ≤ 256) (o : Nat) (ho : o ≤ 6) (m0 m1 : Int) (hm : ∀ l, FreeOf fr l → bestR o l = (m0, m1)) (hm0 : 0 ≤ m0 → m0 + sz o ≤ n) :
    Calls Tryd.prog 26 #[.pointer (some ⟨p, 0, none⟩), .int .i64 o] w (RefAllocRes p fb mb cp n g tk o (m0, m1) w) := by
  have H := hid h
  have HG := hid hg
  have HBt := hid hb
  have HM := hid hm
  have HM0 := hid hm0
  have e : decide (0 ≤ (o : Int) ∧ (o : Int) ≤ 6) = true := decide_eq_true (by omega)
  have HB := hid (between o 0 6)
  rw [e] at HB
  have hpw : p < w.heap.size := lt_of_cell h.c0
  clear h hg hb hm hm0 e
  go_enter Tryd.func26, Tryd.ntmps26
  go_wp2_with fail
  refine (HB.out w).mono ?_
  rintro e w' ⟨rfl, rfl⟩
  go_wp2_with fail
  have T0 : Turn (fun _ => False) w (w.alloc (.cells #[.int .i64 (-1), .int .i64 0] 36)) := (Turn.refl _ _).alloc _
  have b0 : (w.alloc (.cells #[.int .i64 (-1), .int .i64 0] 36)).cell? ⟨w.heap.size, 0, none⟩ = some (.int .i64 (-1)) := by simp
  have b1 : (w.alloc (.cells #[.int .i64 (-1), .int .i64 0] 36)).cell? ⟨w.heap.size, 1, none⟩ = some (.int .i64 0) := by simp
  have z0 : ∀ i, (w.alloc (.cells #[.int .i64 (-1), .int .i64 0] 36)).frozen? ⟨w.heap.size, i, none⟩ = false := fun i => by simp
  refine (refFree_any (H.out.turned T0 (fun _ _ => id)) HG.out HBt.out hn).mono ?_
  rintro e w1 ⟨l, a, cap, hfl, rfl, hrow, t1⟩
  obtain ⟨A, hA⟩ : ∃ A, w.heap.size = A := ⟨_, rfl⟩
  have hA1 : A < w1.heap.size := by have := t1.size; rw [World.size_alloc] at this; omega
  rw [hA] at b0 b1 z0
  rw [hA]
  have c0 := (t1.cell (a := ⟨A, 0, none⟩) (by rw [World.size_alloc]; simp only; omega) id).trans b0
  have c1 := (t1.cell (a := ⟨A, 1, none⟩) (by rw [World.size_alloc]; simp only; omega) id).trans b1
  have z1 : ∀ i, w1.frozen? ⟨A, i, none⟩ = false := fun i => (t1.frozen (a := ⟨A, i, none⟩) (by rw [World.size_alloc]; simp only; omega) id).trans (z0 i)
  have HT1 := hid (T0.trans t1)
  have hbst := HM.out l hfl
  have hll : ∀ t ∈ l, 0 ≤ t.1 ∧ t.1 ≤ 256 ∧ t.2 < 7 := fun t ht => by
    obtain ⟨h1, h2⟩ := mem_listTo.1 (hfl.1.mem_iff.1 ht)
    obtain ⟨_, h3, _, h4⟩ := HG.out.okF t.2 t.1 h1 h2
    have := sz_pos t.2
    exact ⟨h3, by omega, h1⟩
  have hlen : l.length ≤ 2000 := by
    have h1 := hfl.1.length_eq
    have h2 := listTo_len (fr := fr) (fun k hk => HG.out.len (by omega) k hk) (k := 7) (by omega)
    omega
  have hrow' : l = [] ∨ ∃ g, a = some ⟨g, 0, none⟩ ∧ A < g ∧ g < w1.heap.size ∧ BksAt w1 g 0 l := by
    rcases hrow with h | ⟨g, h1, h2, h3, h4⟩
    · exact .inl h
    · exact .inr ⟨g, h1, by rw [World.size_alloc] at h2; omega, h3, h4⟩
  have HRow := hid hrow'
  have HBst := hid hbst
  have HLl := hid hll
  have HZ := hid z1
  have HA := hid hA
  have HC0 := hid c0
  have HC1 := hid c1
  clear t1 T0 hrow hrow' hbst hll b0 b1 z0 hA hfl HM z1 c0 c1
  go_wp2_with fail
  go_loopw [17] (fun i wr => ∃ j : Nat, j ≤ l.length ∧ i = .int .i64 j ∧ Hid (wr.cell? ⟨A, 0, none⟩ = some (.int .i64 (bestR o (l.take j)).1) ∧ wr.cell? ⟨A, 1, none⟩ = some (.int .i64 (bestR o (l.take j)).2)) ∧ Hid (∀ i, wr.frozen? ⟨A, i, none⟩ = false) ∧ Hid (Turn (fun _ => False) w wr) ∧ Hid (Turn (fun k => k = A) w1 wr)) (fun i _ => l.length - (intOf i).toNat)
  case atStart => exact ⟨0, Nat.zero_le _, rfl, hid ⟨HC0.out, HC1.out⟩, HZ, HT1, hid (Turn.refl _ _)⟩
  case round =>
    clear HZ HT1 HC0 HC1
    obtain ⟨j, hj, rfl, hC, hZ, hT, hT1⟩ := hrel
    obtain ⟨⟨q0, q1⟩, hq⟩ : ∃ q, bestR o (l.take j) = q := ⟨_, rfl⟩
    have hbd := bestR_bound o (l.take j) (-1, 0) (fun t ht => HLl.out t (List.mem_of_mem_take ht)) (by decide)
    change -1 ≤ (bestR o (l.take j)).1 ∧ (bestR o (l.take j)).1 ≤ 256 ∧ 0 ≤ (bestR o (l.take j)).2 ∧ (bestR o (l.take j)).2 < 7 at hbd
    obtain ⟨c0, c1⟩ := hC.out
    rw [hq] at hbd c0 c1
    simp only at hbd c0 c1
    obtain ⟨hq1, hq2, hq3, hq4⟩ := hbd
    have hAr : A < wr.heap.size := lt_of_cell c0
    by_cases hlt : j < l.length
    · have hlt' : (j : Int) < l.length := by omega
      obtain ⟨⟨t0, t1⟩, ht⟩ : ∃ t, l[j]? = some t := ⟨_, List.getElem?_eq_getElem hlt⟩
      obtain ⟨gb, rfl, hgA, hg1, hat⟩ := HRow.out.resolve_left (by rintro rfl; simp at hlt)
      obtain ⟨d0, d1⟩ := (hat.turned hT1.out hg1 (by omega)) j _ ht
      simp only [Nat.zero_add] at d0 d1
      have hsn := bestR_snoc (o := o) ht
      rw [hq] at hsn
      simp only at hsn
      obtain ⟨e0, e1, e2⟩ := HLl.out _ (List.mem_of_getElem? ht)
      simp only at e0 e1 e2
      have z0 := hZ.out 0
      have z1 := hZ.out 1
      have HSn := hid hsn
      have Ta : Turn (fun _ => False) wr (wr.alloc (.cells #[.int .i64 t0, .int .i64 (t1 : Int)] 36)) := (Turn.refl _ _).alloc _
      have hgr : gb < wr.heap.size := Nat.lt_of_lt_of_le hg1 hT1.out.size
      have HTa := hid Ta
      have HAw : Hid (w.heap.size ≤ A) := hid (by have := HA.out; omega)
      have Tb : ∀ u v, Turn (fun k => k = A) wr (((wr.setCell ⟨A, 0, none⟩ u).setCell ⟨A, 1, none⟩ v).alloc (.cells #[.int .i64 t0, .int .i64 (t1 : Int)] 36)) := fun u v => (((Turn.refl (fun k => k = A) wr).setCell _ _ (fun _ => rfl)).setCell _ _ (fun _ => rfl)).alloc _
      have HTb := hid Tb
      have hzz : ∀ u v, Hid (∀ i, (((wr.setCell ⟨A, 0, none⟩ u).setCell ⟨A, 1, none⟩ v).alloc (.cells #[.int .i64 t0, .int .i64 (t1 : Int)] 36)).frozen? ⟨A, i, none⟩ = false) := fun u v => hid (fun i => by
        rw [World.frozen?_alloc_old _ _ _ (by simpa using Nat.ne_of_lt hAr), World.frozen?_setCell, World.frozen?_setCell]
        exact hZ.out i)
      have hzn : Hid (∀ i, (wr.alloc (.cells #[.int .i64 t0, .int .i64 (t1 : Int)] 36)).frozen? ⟨A, i, none⟩ = false) := hid (fun i => (HTa.out.frozen (a := ⟨A, i, none⟩) hAr id).trans (hZ.out i))
      have HK := hid (And.intro c0 c1)
      have HKa := hid (And.intro ((Ta.cell (a := ⟨A, 0, none⟩) hAr id).trans c0) ((Ta.cell (a := ⟨A, 1, none⟩) hAr id).trans c1))
      clear Ta ht hat hsn hq Tb
      by_cases hc1 : (o : Int) ≤ t1
      · by_cases hc2 : q0 < 0
        · go_wp2_with fail
          go_roundw
          case rel => exact ⟨j + 1, by omega, by go_num, hid (by
            rw [HSn.out, if_pos ⟨hc1, .inl hc2⟩]
            exact best_set HK.out.1 HK.out.2 _ _ _), hzz _ _, hid (hT.out.trans' (HTb.out _ _) (fun k hk e => by have := HAw.out; omega)), hid (hT1.out.trans (HTb.out _ _))⟩
          case measure => simp [intOf]; omega
        · by_cases hc3 : (t1 : Int) < q1
          · go_wp2_with fail
            go_roundw
            case rel => exact ⟨j + 1, by omega, by go_num, hid (by
              rw [HSn.out, if_pos ⟨hc1, .inr hc3⟩]
              exact best_set HK.out.1 HK.out.2 _ _ _), hzz _ _, hid (hT.out.trans' (HTb.out _ _) (fun k hk e => by have := HAw.out; omega)), hid (hT1.out.trans (HTb.out _ _))⟩
            case measure => simp [intOf]; omega
          · go_wp2_with fail
            go_roundw
            case rel => exact ⟨j + 1, by omega, by go_num, hid (by
              rw [HSn.out, if_neg (fun h => h.2.elim hc2 hc3)]
              exact HKa.out), hzn, hid (hT.out.trans HTa.out), hid (hT1.out.trans (HTa.out.mono fun _ _ h => h.elim))⟩
            case measure => simp [intOf]; omega
      · go_wp2_with fail
        go_roundw
        case rel => exact ⟨j + 1, by omega, by go_num, hid (by
          rw [HSn.out, if_neg (fun h => hc1 h.1)]
          exact HKa.out), hzn, hid (hT.out.trans HTa.out), hid (hT1.out.trans (HTa.out.mono fun _ _ h => h.elim))⟩
        case measure => simp [intOf]; omega
    · have hlt' : ¬ (j : Int) < l.length := by omega
      have hle : l.take j = l := List.take_of_length_le (by omega)
      rw [hle, HBst.out] at hq
      cases hq
      have z0 := hZ.out 0
      have z1 := hZ.out 1
      clear hle hT1
      by_cases hm0 : m0 < 0
      · go_wp2_with fail
        go_ret2
        exact .inl ⟨hm0, rfl, hT.out⟩
      · have hb0 := HM0.out (by omega)
        have hs := wrap_sz64 ⟨o, by omega⟩
        simp only at hs
        have hsp := sz_pos o
        have hsl := sz_le (k := o) (by omega)
        have ho0 : ¬ (o : Int) < 0 := by omega
        have HR1 := hid (H.out.turned hT.out (fun _ _ => id))
        have HAw : Hid (w.heap.size ≤ A) := hid (by have := HA.out; omega)
        have HAf : Hid (A ≠ fb ∧ A ≠ mb ∧ A ≠ p) := hid (by have h1 := H.out.lt; have h2 := H.out.mp.lt; have := HA.out; omega)
        have HC := hid (And.intro c0 c1)
        obtain ⟨b, rfl⟩ : ∃ b : Nat, m0 = b := ⟨m0.toNat, by omega⟩
        go_wp2_with fail
        clear c0 c1 z0 z1 hC
        have hT' := hid (hT.out.mono (S' := fun j => j = fb ∨ j = mb) fun _ _ h => h.elim)
        go_loopw [9] (fun i wr => ∃ f : Nat, b ≤ f ∧ (f : Int) ≤ b + sz o ∧ i = .int .i64 f ∧ Hid (RefAt wr p fb mb cp n (fill g b f false) tk) ∧ Hid (wr.cell? ⟨A, 0, none⟩ = some (.int .i64 (b : Int)) ∧ wr.cell? ⟨A, 1, none⟩ = some (.int .i64 m1)) ∧ Hid (Turn (fun j => j = fb ∨ j = mb) w wr)) (fun i _ => 1000 - (intOf i).toNat)
        case atStart => exact ⟨b, Nat.le_refl _, by omega, rfl, hid (by rw [fill_start]; exact HR1.out), HC, hT'⟩
        case round =>
          clear HR1 HC hT hT' hZ
          obtain ⟨f, hbf, hf, rfl, hR, hC, hT⟩ := hrel
          obtain ⟨c0, c1⟩ := hC.out
          by_cases hlt : (f : Int) < b + sz o
          · have hfn : (f : Int) < n := by omega
            have hfn' : f < n := by omega
            have r0 := hR.out.c0
            have rf := hR.out.row f hfn'
            have zf := hR.out.fz f
            go_wp2_with fail
            go_quiet (fail)
            go_wp2_with fail
            have Tn : Turn (fun _ => False) wr (wr.drewN nq) := (Turn.refl _ _).drewN _
            have hRn := hR.out.turned Tn (fun _ _ => id)
            have Ts : Turn (fun j => j = fb) (wr.drewN nq) ((wr.drewN nq).setCell ⟨fb, f, none⟩ (.bool false)) := (Turn.refl _ _).setCell _ _ (fun _ => rfl)
            have hAl : A < (wr.drewN nq).heap.size := Nat.lt_of_lt_of_le (lt_of_cell c0) Tn.size
            go_roundw
            case rel => exact ⟨f + 1, by omega, by omega, by go_num, hid (by
              have h1 := hRn.set f hfn' false
              have e : (((f + 1 : Nat)) : Int) = (f : Int) + 1 := by omega
              rw [e, fill_more g b f false (by omega)]
              exact h1), hid ⟨(Ts.cell (a := ⟨A, 0, none⟩) hAl HAf.out.1).trans ((Tn.cell (a := ⟨A, 0, none⟩) (lt_of_cell c0) id).trans c0), (Ts.cell (a := ⟨A, 1, none⟩) hAl HAf.out.1).trans ((Tn.cell (a := ⟨A, 1, none⟩) (lt_of_cell c1) id).trans c1)⟩, hid ((hT.out.trans (Tn.mono fun _ _ h => h.elim)).trans (Ts.mono fun _ _ e => .inl e))⟩
            case measure => simp [intOf]; omega
          · have hfe : (f : Int) = b + sz o := by omega
            have r0 := hR.out.c0
            go_wp2_with fail
            go_quiet (fail)
            have Td : Turn (fun _ => False) wr (wr.drewN (nq + 1)) := (Turn.refl _ _).drewN _
            have HRd := hid (hR.out.turned Td (fun _ _ => id))
            have r1 := hR.out.c1
            obtain ⟨w3, hrun, hm3, t3⟩ := HRd.out.mp.run_update keyI Tryd.underlying33 Tryd.underlying3 (b : Int) o
            have HM3 := hid hm3
            have HT3 := hid t3
            simp only [encI] at hrun
            have k0 := (t3.cell (a := ⟨A, 0, none⟩) (Nat.lt_of_lt_of_le (lt_of_cell c0) Td.size) HAf.out.2.1).trans ((Td.cell (a := ⟨A, 0, none⟩) (lt_of_cell c0) id).trans c0)
            have HTd := hid Td
            clear hm3 t3 Td
            go_wp2_with fail
            go_region
            all_goals go_wp2_with fail
            all_goals go_ret2
            all_goals
              refine .inr ⟨by omega, rfl, ?_, (hT.out.trans (HTd.out.mono fun _ _ h => h.elim)).trans (HT3.out.mono fun _ _ e => .inr e)⟩
              have h1 := HRd.out.mapped HT3.out _ HM3.out
              rw [hfe] at h1
              exact h1
end Go.Proofs.YtiohpmcedfbcgabDoor
