/- Package proc: Exit: it is dead, its own are 1's. Conditions: each theorem's own premises. -/
import Derived.Test.YtiohpmcedfbcgabDoorProcFork
import Derived.Test.YtiohpmcedfbcgabDoorMapRange
namespace Go.Proofs.YtiohpmcedfbcgabDoor
open Go.RowKit
set_option linter.unusedVariables false

theorem TabIs.congr {w : World} {tb mb : Nat} {l : List (Int × Nat)} {f g : Nat → Pr} (h : TabIs w tb mb l f) (e : ∀ t ∈ l, f t.2 = g t.2) : TabIs w tb mb l g :=
  ⟨h.hdr, h.mp, fun t ht => by rw [← e t ht]; exact h.pr t ht, h.inj, h.ap, h.ne⟩
theorem PrAt.set0 {w : World} {b : Nat} {p : Pr} (h : PrAt w b p) (v : Int) : PrAt (w.setCell ⟨b, 0, none⟩ (.int .i64 v)) b { p with parent := v } := by
  refine ⟨World.cell?_setCell_same _ _ _ h.c0, ?_, ?_, ?_, ?_, fun i => by rw [World.frozen?_setCell]; exact h.fz i⟩
  · rw [World.cell?_setCell_other _ _ _ _ (by intro e; injection e with _ e; omega)]; exact h.c1
  · rw [World.cell?_setCell_other _ _ _ _ (by intro e; injection e with _ e; omega)]; exact h.c2
  · rw [World.cell?_setCell_other _ _ _ _ (by intro e; injection e with _ e; omega)]; exact h.c3
  · rw [World.cell?_setCell_other _ _ _ _ (by intro e; injection e with _ e; omega)]; exact h.c4
theorem PrAt.set1 {w : World} {b : Nat} {p : Pr} (h : PrAt w b p) (v : Int) : PrAt (w.setCell ⟨b, 1, none⟩ (.int .i64 v)) b { p with state := v } := by
  refine ⟨?_, World.cell?_setCell_same _ _ _ h.c1, ?_, ?_, ?_, fun i => by rw [World.frozen?_setCell]; exact h.fz i⟩
  · rw [World.cell?_setCell_other _ _ _ _ (by intro e; injection e with _ e; omega)]; exact h.c0
  · rw [World.cell?_setCell_other _ _ _ _ (by intro e; injection e with _ e; omega)]; exact h.c2
  · rw [World.cell?_setCell_other _ _ _ _ (by intro e; injection e with _ e; omega)]; exact h.c3
  · rw [World.cell?_setCell_other _ _ _ _ (by intro e; injection e with _ e; omega)]; exact h.c4
theorem PrAt.set2 {w : World} {b : Nat} {p : Pr} (h : PrAt w b p) (v : Int) : PrAt (w.setCell ⟨b, 2, none⟩ (.int .i64 v)) b { p with code := v } := by
  refine ⟨?_, ?_, World.cell?_setCell_same _ _ _ h.c2, ?_, ?_, fun i => by rw [World.frozen?_setCell]; exact h.fz i⟩
  · rw [World.cell?_setCell_other _ _ _ _ (by intro e; injection e with _ e; omega)]; exact h.c0
  · rw [World.cell?_setCell_other _ _ _ _ (by intro e; injection e with _ e; omega)]; exact h.c1
  · rw [World.cell?_setCell_other _ _ _ _ (by intro e; injection e with _ e; omega)]; exact h.c3
  · rw [World.cell?_setCell_other _ _ _ _ (by intro e; injection e with _ e; omega)]; exact h.c4

theorem exit_missing {w : World} {tb mb : Nat} {l : List (Int × Nat)} {f : Nat → Pr} (h : TabIs w tb mb l f) (pid c : Int) (hr : ¬ RunsIn l f pid) :
    Calls Tryd.prog 34 #[.pointer (some ⟨tb, 0, none⟩), .int .i64 pid, .int .i64 c] w fun e w' => e = .returned (.iface 40 (.int .i64 7)) ∧ w = w' := by
  have HR := hid (runs_no h pid hr)
  clear h hr
  go_enter Tryd.func34, Tryd.ntmps34
  go_wp2_with fail
  refine HR.out.mono ?_
  rintro e w1 ⟨rfl, rfl⟩
  go_wp2_with fail
  go_ret
  exact ⟨rfl, rfl⟩
theorem exit_one {w : World} {tb mb : Nat} {l : List (Int × Nat)} {f : Nat → Pr} (h : TabIs w tb mb l f) (c : Int) (hr : RunsIn l f 1) :
    Calls Tryd.prog 34 #[.pointer (some ⟨tb, 0, none⟩), .int .i64 1, .int .i64 c] w fun e w' => e = .returned (.iface 40 (.int .i64 6)) ∧ w = w' := by
  have HR := hid (runs_yes h 1 hr)
  clear h hr
  go_enter Tryd.func34, Tryd.ntmps34
  go_wp2_with fail
  refine HR.out.mono ?_
  rintro e w1 ⟨rfl, rfl⟩
  go_wp2_with fail
  go_ret
  exact ⟨rfl, rfl⟩

theorem turn_one (w : World) (b i : Nat) (v : Value) : Turn (fun k => k = b) w (w.setCell ⟨b, i, none⟩ v) := Turn.setCell (S := fun k => k = b) (Turn.refl _ _) ⟨b, i, none⟩ v (fun _ => rfl)
theorem turn_three (w : World) (b : Nat) (x y z : Value) : Turn (fun k => k = b) w (((w.setCell ⟨b, 1, none⟩ x).setCell ⟨b, 2, none⟩ y).setCell ⟨b, 3, none⟩ z) := ((turn_one w b 1 x).trans (turn_one _ b 2 y)).trans (turn_one _ b 3 z)
def deadP (p : Pr) (c : Int) : Pr := ⟨p.parent, 2, c, 0, p.ignores⟩
def reparent (pid : Int) (p : Pr) : Pr := if p.parent = pid then { p with parent := 1 } else p
def exitF (f : Nat → Pr) (b : Nat) (pid c : Int) : Nat → Pr := fun j => reparent pid (updP f b (deadP (f b) c) j)

set_option maxHeartbeats 2000000 in
set_option maxRecDepth 100000 in
theorem exit_runs {w : World} {tb mb : Nat} {l : List (Int × Nat)} {f : Nat → Pr} (h : TabIs w tb mb l f) (pid c : Int) (b : Nat) (hr : RunsIn l f pid) (hb : mget l pid = some b) (h1 : pid ≠ 1) :
    Calls Tryd.prog 34 #[.pointer (some ⟨tb, 0, none⟩), .int .i64 pid, .int .i64 c] w fun e w' => e = .returned .nilIface ∧ TabIs w' tb mb l (exitF f b pid c) ∧ Turn (fun k => k ∈ l.map (·.2)) w w' := by
  have hm := mem_of_mget hb
  have hp := h.pr _ hm
  simp only at hp
  have HR := hid (runs_yes h pid hr)
  have hh := h.hdr
  have lk := lookup_pid h.mp pid
  unfold whereP at lk
  rw [hb] at lk
  simp only [Option.elim, ptr] at lk
  have hne : (pid == 1) = false := by simp [h1]
  have c1 := hp.c1
  have c2 := hp.c2
  have c3 := hp.c3
  have f1 := hp.fz 1
  have f2 := hp.fz 2
  have f3 := hp.fz 3
  have T1 : Turn (fun k => k = b) w (((w.setCell ⟨b, 1, none⟩ (.int .i64 2)).setCell ⟨b, 2, none⟩ (.int .i64 c)).setCell ⟨b, 3, none⟩ (.int .i64 0)) := turn_three w b _ _ _
  have HTab : Hid (TabIs (((w.setCell ⟨b, 1, none⟩ (.int .i64 2)).setCell ⟨b, 2, none⟩ (.int .i64 c)).setCell ⟨b, 3, none⟩ (.int .i64 0)) tb mb l (updP f b (deadP (f b) c))) := hid (h.upd hm T1 (((hp.set1 2).set2 c).setWaits 0))
  have HT1 : Hid (Turn (fun k => k ∈ l.map (·.2)) w (((w.setCell ⟨b, 1, none⟩ (.int .i64 2)).setCell ⟨b, 2, none⟩ (.int .i64 c)).setCell ⟨b, 3, none⟩ (.int .i64 0))) := hid (T1.mono (fun k _ e => by subst e; exact List.mem_map.2 ⟨_, hm, rfl⟩))
  have hbl : b < w.heap.size := hp.lt
  have hh1 := HTab.out.hdr
  clear h hr hb hm hp T1
  go_enter Tryd.func34, Tryd.ntmps34
  go_wp2_with fail
  refine HR.out.mono ?_
  rintro e w1 ⟨rfl, rfl⟩
  go_upto_region 8 with fail
  clear c1 c2 c3 f1 f2 f3 lk hh HR
  generalize ((w.setCell ⟨b, 1, none⟩ (.int .i64 2)).setCell ⟨b, 2, none⟩ (.int .i64 c)).setCell ⟨b, 3, none⟩ (.int .i64 0) = W1 at *
  obtain ⟨F1, hF1⟩ : ∃ F1, updP f b (deadP (f b) c) = F1 := ⟨_, rfl⟩
  rw [hF1] at HTab
  have HF1 := hid hF1
  clear hF1
  go_wp2_with (at_range; refine wpList_maprange rfl _ _ 3 164 rfl Tryd.underlying167 rfl HTab.out.mp ?_; intro w2 hR2 t2 hs2; have HR2 := hid hR2; have HT2 := hid t2; clear hR2 t2 hs2)
  obtain ⟨r, hrr⟩ : ∃ r, W1.heap.size = r := ⟨_, rfl⟩
  rw [hrr] at HR2
  rw [hrr]
  have HTab2 := hid (HTab.out.turned HT2.out (fun _ _ => id))
  have HT12 := hid (HT1.out.trans (HT2.out.mono fun _ _ h => h.elim))
  have HRF : Hid (∀ k, TFoot tb mb l k → ¬ k = r) := hid (fun k hk e => by have := HTab.out.foot_lt k hk; omega)
  have HWr : Hid (w.heap.size ≤ r) := hid (by rw [← hrr]; exact HT1.out.size)
  clear HT1 HT2 HTab hrr hh1
  go_frame
  go_loopg [10] (l.length) (fun g _ wr => ∃ (seenK : Int → Prop) (F : Nat → Pr), Hid (RangeOf wr mb r encI (fun b : Nat => Value.pointer (some ⟨b, 0, none⟩)) l seenK g) ∧ Hid (TabIs wr tb mb l F) ∧ Hid (∀ t ∈ l, (seenK t.1 → F t.2 = reparent pid (F1 t.2)) ∧ (¬ seenK t.1 → F t.2 = F1 t.2)) ∧ Hid (Turn (fun k => k ∈ l.map (·.2)) w wr))
  case atStart => exact ⟨_, _, HR2, HTab2, hid (fun t ht => ⟨fun h => h.elim, fun _ => rfl⟩), HT12⟩
  case round =>
    clear HR2 HTab2 HT12
    obtain ⟨seenK, F, hR, hTab, hF, hT⟩ := hrel
    go_wp2_with (at_next; refine wpList_mapnext rfl _ rfl rfl hR.out ?_ ?_)
    · intro hall
      have HAll := hid hall
      clear hall
      go_wp2_with fail
      go_ret
      refine ⟨rfl, hTab.out.congr (fun t ht => ?_), hT.out⟩
      rw [(hF.out t ht).1 (HAll.out t.1 t.2 ht), ← HF1.out]
      rfl
    · intro k bq w5 cnt' hpm hns hR5 hlt5 t5 hsz5 hen
      (try simp only at hns hen)
      have T5 := t5
      have hbF : bq ∈ l.map (·.2) := List.mem_map.2 ⟨_, hpm, rfl⟩
      have HTab5 := hid (hTab.out.turned t5 (fun k hk e => HRF.out k hk e))
      have hpq := HTab5.out.pr _ hpm
      simp only at hpq
      have hFq : F bq = F1 bq := (hF.out _ hpm).2 hns
      have c0 := hpq.c0
      have f0 := hpq.fz 0
      rw [hFq] at c0
      have HPq := hid hpq
      have HFq := hid hFq
      have HPm := hid hpm
      have HNs := hid hns
      have HR5 := hid hR5
      have HT5 := hid (hT.out.trans' t5 (fun k hk e => absurd e (by have := HWr.out; omega)))
      have HbF := hid hbF
      have hinj : ∀ t ∈ l, t.2 = bq → t.1 = k := fun t ht e => by
        have h1 := List.getElem?_of_mem ht
        have h2 := List.getElem?_of_mem hpm
        obtain ⟨i, hi⟩ := h1
        obtain ⟨j, hj⟩ := h2
        have h3 : (l.map (·.2))[i]? = some bq := by rw [List.getElem?_map, hi]; simp [e]
        have h4 : (l.map (·.2))[j]? = some bq := by rw [List.getElem?_map, hj]; rfl
        have := (List.getElem?_inj (List.getElem?_eq_some_iff.1 h3).1 hTab.out.inj).1 (h3.trans h4.symm)
        subst this
        rw [hi] at hj
        cases hj; rfl
      have HInj := hid hinj
      clear hpm hns hR5 t5 T5 hpq hFq hbF hinj
      by_cases hpar : (F1 bq).parent = pid
      · have hpe : ((F1 bq).parent == pid) = true := by simp [hpar]
        have HPar := hid hpar
        clear hpar
        go_wp2_with fail
        go_roundg cnt'
        case measure => omega
        case rel =>
          have T6 : Turn (fun j => j = bq) w5 (w5.setCell ⟨bq, 0, none⟩ (.int .i64 1)) := turn_one _ _ _ _
          have hap := hTab.out.ap _ HPm.out
          refine ⟨_, updP F bq { F bq with parent := 1 }, hid (HR5.out.turned T6 (fun e => hap.2 e.symm) (fun e => HRF.out bq (.inr (.inr HbF.out)) e.symm)), hid (HTab5.out.upd HPm.out T6 (HPq.out.set0 1)), hid (fun t ht => ?_), hid (HT5.out.trans' T6 (fun k _ e => by subst e; exact HbF.out))⟩
          by_cases e : t.2 = bq
          · have e1 := HInj.out t ht e
            refine ⟨fun _ => ?_, fun h => absurd (.inr e1) h⟩
            rw [e, updP_same, HFq.out]
            unfold reparent
            rw [if_pos HPar.out]
          · rw [updP_other _ _ e]
            refine ⟨fun h => (hF.out t ht).1 (h.resolve_right (fun e1 => e ?_)), fun h => (hF.out t ht).2 (fun hs => h (.inl hs))⟩
            have h1 := mget_mem hTab.out.mp.nodup ht
            have h2 := mget_mem hTab.out.mp.nodup HPm.out
            (try simp only at e1)
            rw [e1] at h1
            exact Option.some.inj (h1.symm.trans h2)
      · have hpe : ((F1 bq).parent == pid) = false := by simp [hpar]
        have HPar := hid hpar
        clear hpar
        go_wp2_with fail
        go_roundg cnt'
        case measure => omega
        case rel =>
          refine ⟨_, F, HR5, HTab5, hid (fun t ht => ?_), HT5⟩
          by_cases e : t.2 = bq
          · have e1 := HInj.out t ht e
            refine ⟨fun _ => ?_, fun h => absurd (.inr e1) h⟩
            rw [e, HFq.out]
            unfold reparent
            rw [if_neg HPar.out]
          · refine ⟨fun h => (hF.out t ht).1 (h.resolve_right (fun e1 => e ?_)), fun h => (hF.out t ht).2 (fun hs => h (.inl hs))⟩
            have h1 := mget_mem hTab.out.mp.nodup ht
            have h2 := mget_mem hTab.out.mp.nodup HPm.out
            (try simp only at e1)
            rw [e1] at h1
            exact Option.some.inj (h1.symm.trans h2)
end Go.Proofs.YtiohpmcedfbcgabDoor
