/- Package proc: Wait. Conditions: each theorem's own premises. -/
import Derived.Test.YtiohpmcedfbcgabDoorProcPids
import Derived.Test.YtiohpmcedfbcgabDoorProcExit
import Derived.Test.YtiohpmcedfbcgabDoorIntsDelIn
import Derived.Deep.RegionWith
import Derived.Deep.RegionHeld3
import Derived.OwnWalk
namespace Go.Proofs.YtiohpmcedfbcgabDoor
open Go.RowKit Go.Shelf
set_option linter.unusedVariables false

/-- Whose a process is (0: nobody's). -/
def parR (l : List (Int × Nat)) (f : Nat → Pr) (pid : Int) : Int := (mget l pid).elim 0 fun b => (f b).parent
/-- One's own, rising. -/
def ownOf (l : List (Int × Nat)) (f : Nat → Pr) (pid : Int) : List Int := (pidsOf l).filter fun k => !(parR l f k != pid)
theorem mem_pidsOf {l : List (Int × Nat)} {k : Int} : k ∈ pidsOf l ↔ k ∈ l.map (·.1) := by
  unfold pidsOf
  rw [List.mem_mergeSort]
theorem mget_of_key {l : List (Int × Nat)} {k : Int} (h : k ∈ l.map (·.1)) : ∃ b, mget l k = some b := by
  cases e : mget l k with
  | some b => exact ⟨b, rfl⟩
  | none =>
    obtain ⟨t, ht, rfl⟩ := List.mem_map.1 h
    exact absurd rfl (mget_none_iff.1 e t ht)
theorem pidsOf_length (l : List (Int × Nat)) : (pidsOf l).length = l.length := by unfold pidsOf; rw [List.length_mergeSort]; simp

theorem wait1_is {w : World} {tb mb : Nat} {l : List (Int × Nat)} {f : Nat → Pr} (h : TabIs w tb mb l f) (pt pp : Nat) (pid k : Int) (hk : k ∈ l.map (·.1)) (ht : w.cell? ⟨pt, 0, none⟩ = some (.pointer (some ⟨tb, 0, none⟩))) (hp : w.cell? ⟨pp, 0, none⟩ = some (.int .i64 pid)) :
    Calls Tryd.prog 109 #[.int .i64 k, .pointer (some ⟨pt, 0, none⟩), .pointer (some ⟨pp, 0, none⟩)] w fun e w' => e = .returned (.bool (parR l f k != pid)) ∧ Turn (fun _ => False) w w' := by
  obtain ⟨b, hb⟩ := mget_of_key hk
  have lk := fun n => lookup_pid (h.mp.turned ((Turn.refl (fun _ => False) w).drewN n) id) k
  have hh := h.hdr
  unfold whereP at lk
  unfold parR
  rw [hb] at lk ⊢
  simp only [Option.elim, ptr] at lk ⊢
  have c0 := (h.pr _ (mem_of_mget hb)).c0
  simp only at c0
  clear h hb hk
  go_enter Tryd.func109, Tryd.ntmps109
  go_wp2_with fail
  go_quiet (fail)
  go_wp2_with fail
  go_ret
  exact ⟨rfl, (Turn.refl _ _).drewN _⟩
theorem wait2_is {w : World} {tb mb : Nat} {l : List (Int × Nat)} {f : Nat → Pr} (h : TabIs w tb mb l f) (pt : Nat) (k : Int) (hk : k ∈ l.map (·.1)) (ht : w.cell? ⟨pt, 0, none⟩ = some (.pointer (some ⟨tb, 0, none⟩))) :
    Calls Tryd.prog 111 #[.int .i64 k, .pointer (some ⟨pt, 0, none⟩)] w fun e w' => e = .returned (.bool (stR l f k == 2)) ∧ Turn (fun _ => False) w w' := by
  obtain ⟨b, hb⟩ := mget_of_key hk
  have lk := lookup_pid h.mp k
  have hh := h.hdr
  unfold whereP at lk
  unfold stR
  rw [hb] at lk ⊢
  simp only [Option.elim, ptr] at lk ⊢
  have c1 := (h.pr _ (mem_of_mget hb)).c1
  simp only at c1
  clear h hb hk
  go_enter Tryd.func111, Tryd.ntmps111
  go_wp2_with fail
  go_ret
  exact ⟨rfl, Turn.refl _ _⟩
theorem enter_wait1 (args : Array Value) (w : World) : (callFunc 109 args).run Tryd.prog w = .ok (.enter 109 args) w := by kernel_rfl
theorem enter_wait2 (args : Array Value) (w : World) : (callFunc 111 args).run Tryd.prog w = .ok (.enter 111 args) w := by kernel_rfl

theorem wait_missing {w : World} {tb mb : Nat} {l : List (Int × Nat)} {f : Nat → Pr} (h : TabIs w tb mb l f) (pid : Int) (hr : ¬ RunsIn l f pid) :
    Calls Tryd.prog 36 #[.pointer (some ⟨tb, 0, none⟩), .int .i64 pid] w fun e w' => e = .returned (.tuple #[.int .i64 0, .int .i64 0, .iface 40 (.int .i64 7)]) ∧ Turn (fun _ => False) w w' := by
  have T0 : Turn (fun _ => False) w ((w.alloc (.cells #[.pointer (some ⟨tb, 0, none⟩)] 57)).alloc (.cells #[.int .i64 pid] 3)) := ((Turn.refl _ _).alloc _).alloc _
  have HR := hid (runs_no (h.turned T0 (fun _ _ => id)) pid hr)
  clear h hr
  go_enter Tryd.func36, Tryd.ntmps36
  go_wp2_with fail
  refine HR.out.mono ?_
  rintro e w1 ⟨rfl, rfl⟩
  go_wp2_with fail
  go_ret3
  exact ⟨rfl, T0⟩

/-- What Wait answers. -/
def Waited (tb mb : Nat) (l : List (Int × Nat)) (f : Nat → Pr) (pid : Int) (w : World) (e : Ending) (w' : World) : Prop :=
  (ownOf l f pid = [] ∧ e = .returned (.tuple #[.int .i64 0, .int .i64 0, .iface 40 (.int .i64 8)]) ∧ Turn (fun _ => False) w w') ∨
  (ownOf l f pid ≠ [] ∧ (∀ k ∈ ownOf l f pid, stR l f k ≠ 2) ∧ e = .returned (.tuple #[.int .i64 0, .int .i64 0, .iface 40 (.int .i64 6)]) ∧ Turn (fun _ => False) w w') ∨
  (∃ (j : Nat) (k : Int) (b : Nat), (ownOf l f pid)[j]? = some k ∧ (∀ y ∈ (ownOf l f pid).take j, stR l f y ≠ 2) ∧ mget l k = some b ∧ (f b).state = 2 ∧ e = .returned (.tuple #[.int .i64 k, .int .i64 (f b).code, .nilIface]) ∧ TabIs w' tb mb (mdel l k) f ∧ Turn (fun j => j = mb) w w')
theorem TabIs.del {w w' : World} {tb mb : Nat} {l : List (Int × Nat)} {f : Nat → Pr} (h : TabIs w tb mb l f) (k : Int) (hm : MapIs w' mb (.int .i64) encI (fun b : Nat => Value.pointer (some ⟨b, 0, none⟩)) (mdel l k)) (t : Turn (fun j => j = mb) w w') : TabIs w' tb mb (mdel l k) f := by
  have hsub : ∀ s ∈ mdel l k, s ∈ l := fun s hs => (List.mem_filter.1 hs).1
  refine ⟨(t.cell (a := ⟨tb, 0, none⟩) (lt_of_cell h.hdr) h.ne).trans h.hdr, hm, fun s hs => (h.pr s (hsub s hs)).turned t (h.ap s (hsub s hs)).2, ?_, fun s hs => h.ap s (hsub s hs), h.ne⟩
  exact ((List.filter_sublist (p := fun p : Int × Nat => decide (p.1 ≠ k)) (l := l)).map (·.2)).nodup h.inj
set_option maxHeartbeats 4000000 in
set_option maxRecDepth 100000 in
theorem wait_runs {w : World} {tb mb : Nat} {l : List (Int × Nat)} {f : Nat → Pr} (h : TabIs w tb mb l f) (pid : Int) (hr : RunsIn l f pid) (hwf : ∀ t ∈ l, (Lit.int .i64 t.1).wf = true) (hl : l.length ≤ 1000) :
    Calls Tryd.prog 36 #[.pointer (some ⟨tb, 0, none⟩), .int .i64 pid] w (Waited tb mb l f pid w) := by
  obtain ⟨W0, hW0⟩ : ∃ W0, (w.alloc (.cells #[.pointer (some ⟨tb, 0, none⟩)] 57)).alloc (.cells #[.int .i64 pid] 3) = W0 := ⟨_, rfl⟩
  have T0 : Turn (fun _ => False) w W0 := by rw [← hW0]; exact ((Turn.refl _ _).alloc _).alloc _
  have ht0 : W0.cell? ⟨w.heap.size, 0, none⟩ = some (.pointer (some ⟨tb, 0, none⟩)) := by rw [← hW0]; simp
  have hp0 : W0.cell? ⟨w.heap.size + 1, 0, none⟩ = some (.int .i64 pid) := by rw [← hW0]; simp
  have hs0 : W0.heap.size = w.heap.size + 2 := by rw [← hW0]; simp
  have H0 := h.turned T0 (fun _ _ => id)
  have HR := hid (runs_yes H0 pid hr)
  have HPids := hid (pids_is H0 hwf (by omega))
  -- behind Pids: the own ones by DeleteFunc
  have HD : ∀ w1 v, w1.ownsRow W0.heap.size 3 1 v l.length ((pidsOf l).map fun n : Int => Value.int .i64 n) → Turn (fun _ => False) W0 w1 → Calls Tryd.prog 108 #[v, .func (.func 109) #[] #[.pointer (some ⟨w.heap.size, 0, none⟩), .pointer (some ⟨w.heap.size + 1, 0, none⟩)]] w1 (DeletedBy (pidsOf l) (fun k => parR l f k != pid) v w1) := by
    intro w1 v hrow t1
    have hi : IntsAt w1 v (pidsOf l) := by
      unfold IntsAt
      rw [pidsOf_length]
      exact ownsRow_base_a hrow (Nat.zero_le _)
    refine deleteFunc_intsIn hi (by rw [pidsOf_length]; omega) _ _ _ enter_wait1 (fun w2 x hx t2 => ?_)
    have hge : ∀ k, v.ownBlock = some k → W0.heap.size ≤ k := fun k hk => ownBlock_ge hrow hk
    have t02 : Turn (fun k => v.ownBlock = some k) W0 w2 := (t1.mono fun _ _ h => h.elim).trans t2
    have HT2 : TabIs w2 tb mb l f := H0.turned t02 (fun k hk e => by have := H0.foot_lt k hk; have := hge k e; omega)
    exact wait1_is HT2 _ _ pid x (mem_pidsOf.1 hx) ((t02.cell (a := ⟨w.heap.size, 0, none⟩) (by simp only; omega) (fun e => by have := hge _ e; simp only at this; omega)).trans ht0) ((t02.cell (a := ⟨w.heap.size + 1, 0, none⟩) (by simp only; omega) (fun e => by have := hge _ e; simp only at this; omega)).trans hp0)
  have HI : ∀ w1 v own, IntsAt w1 v own → (∀ k ∈ own, k ∈ l.map (·.1)) → own.length ≤ 1000 → TabIs w1 tb mb l f → w1.cell? ⟨w.heap.size, 0, none⟩ = some (.pointer (some ⟨tb, 0, none⟩)) → w.heap.size + 2 ≤ w1.heap.size → Calls Tryd.prog 110 #[v, .func (.func 111) #[] #[.pointer (some ⟨w.heap.size, 0, none⟩)]] w1 (FoundBy own (fun k => stR l f k == 2) w1) := by
    intro w1 v own hi ho hol hT ht hsz
    refine indexFunc_intsIn hi (by omega) _ _ _ enter_wait2 (fun w2 x hx t2 => ?_)
    exact wait2_is (hT.turned t2 (fun _ _ => id)) _ x (ho x hx) ((t2.cell (a := ⟨w.heap.size, 0, none⟩) (by simp only; omega) id).trans ht)
  have HH0 := hid H0
  have HT0 := hid T0
  replace HD := hid HD
  replace HI := hid HI
  have HMl := hid hl
  subst hW0
  clear h H0 T0 hr hl hwf hs0
  go_enter Tryd.func36, Tryd.ntmps36
  go_wp2_with fail
  refine HR.out.mono ?_
  rintro e w1 ⟨rfl, rfl⟩
  go_wp2_with fail
  refine HPids.out.mono ?_
  rintro e w1 ⟨v, rfl, hrow, hbel⟩
  have t1 : Turn (fun _ => False) _ w1 := ⟨hbel.os, hbel.tape, hbel.output, hbel.size, fun k hk _ => hbel.block k hk⟩
  have HRow := hid hrow
  have HT1 := hid t1
  have HD1 := hid (HD.out w1 v hrow t1)
  clear hrow hbel t1
  go_wp2_with fail
  refine HD1.out.mono ?_
  rintro e w2 ⟨v', rfl, hi2, ho2, t2⟩
  have hge : ∀ k, v.ownBlock = some k → w.heap.size + 2 ≤ k := fun k hk => by have := ownBlock_ge HRow.out hk; simp only [World.size_alloc] at this; omega
  have t02 := (HT1.out.mono fun _ _ h => h.elim).trans t2
  have HT2 : Hid (Turn (fun _ => False) w w2) := hid (HT0.out.trans' t02 (fun k hk e => by have := hge k e; omega))
  have HTab : Hid (TabIs w2 tb mb l f) := hid (HH0.out.turned t02 (fun k hk e => by have h1 := HH0.out.foot_lt k hk; have h2 := hge k e; simp only [World.size_alloc] at h1; omega))
  have hct : w2.cell? ⟨w.heap.size, 0, none⟩ = some (.pointer (some ⟨tb, 0, none⟩)) := (t02.cell (a := ⟨w.heap.size, 0, none⟩) (by simp only [World.size_alloc]; omega) (fun e => by have := hge _ e; simp only at this; omega)).trans ht0
  have hsz2 : w.heap.size + 2 ≤ w2.heap.size := by have := t02.size; simp only [World.size_alloc] at this; omega
  obtain ⟨own, hown⟩ : ∃ own, ownOf l f pid = own := ⟨_, rfl⟩
  change IntsAt w2 v' (ownOf l f pid) at hi2
  have hol : own.length ≤ 1000 := by
    rw [← hown]
    refine Nat.le_trans (List.length_filter_le _ _) ?_
    rw [pidsOf_length]; exact HMl.out
  have hok : ∀ k ∈ own, k ∈ l.map (·.1) := fun k hk => by
    rw [← hown] at hk
    exact mem_pidsOf.1 (List.mem_filter.1 hk).1
  rw [hown] at hi2
  have HOwn := hid hown
  have HOk := hid hok
  have HIx := hid (HI.out w2 v' own hi2 hok hol HTab.out hct hsz2)
  have HOl := hid hol
  clear ht0 hp0 hown hok t02 t2 hge ho2 HT1 HRow HD HD1 HI HPids HR HT0 HH0 hol
  rcases hi2.shape with ⟨rfl, rfl⟩ | ⟨b, cap, rfl, hc1, hc2, hb2⟩
  · go_wp2_with fail
    go_ret3
    exact .inl ⟨HOwn.out, rfl, HT2.out⟩
  · by_cases h0 : own = []
    · subst h0
      simp only [List.length_nil] at *
      go_wp2_with fail
      go_ret3
      exact .inl ⟨HOwn.out, rfl, HT2.out⟩
    · have hl0 : own.length ≠ 0 := fun e => h0 (List.length_eq_zero_iff.1 e)
      have hl1 : ((own.length : Int) == 0) = false := beq_eq_false_iff_ne.2 (by omega)
      have HI2 := hid hi2
      have HO0 := hid h0
      clear hi2 h0
      go_wp2_with fail
      refine HIx.out.mono ?_
      rintro e w3 ⟨r, rfl, t3, ⟨rfl, hno⟩ | ⟨j, x, hj, hp0, rfl, hno⟩⟩
      · have HN := hid hno
        have HT3 := hid t3
        clear hno t3
        go_wp2_with fail
        go_ret3
        refine .inr (.inl ⟨by rw [HOwn.out]; exact HO0.out, fun k hk => ?_, rfl, HT2.out.trans HT3.out⟩)
        rw [HOwn.out] at hk
        exact of_decide_eq_false (HN.out k hk)
      · have hjl := (List.getElem?_eq_some_iff.1 hj).1
        obtain ⟨bx, hbx⟩ := mget_of_key (HOk.out x (List.mem_of_getElem? hj))
        have hct3 : w3.cell? ⟨w.heap.size, 0, none⟩ = some (.pointer (some ⟨tb, 0, none⟩)) := (t3.cell (a := ⟨w.heap.size, 0, none⟩) (by simp only; omega) id).trans hct
        have hcx : w3.cell? ⟨b, j, none⟩ = some (.int .i64 x) := (HI2.out.turned t3 (fun _ _ => id)).cell j x hj
        have HTab3 := hid (HTab.out.turned t3 (fun _ _ => id))
        have HT3 := hid (HT2.out.trans t3)
        have hh := HTab3.out.hdr
        have lk := lookup_pid HTab3.out.mp x
        unfold whereP at lk
        rw [hbx] at lk
        simp only [Option.elim, ptr] at lk
        have c2 := (HTab3.out.pr _ (mem_of_mget hbx)).c2
        simp only at c2
        have HN := hid hno
        have HJ := hid hj
        have HP0 := hid hp0
        have HB := hid hbx
        clear hno t3 hj hp0 hbx hct HT2 HTab HIx
        go_wp2_with (at_delete; refine wpList_mapdel rfl _ _ 167 3 164 rfl Tryd.underlying167 Tryd.underlying3 keyI mb rfl HTab3.out.mp x rfl ?_; intro w4 hm4 t4; have HM4 := hid hm4; have HT4 := hid t4; clear hm4 t4)
        go_ret3
        have hst : (f bx).state = 2 := by
          have := HP0.out
          unfold stR at this
          rw [HB.out] at this
          simpa using this
        refine .inr (.inr ⟨j, x, bx, by rw [HOwn.out]; exact HJ.out, fun y hy => ?_, HB.out, hst, rfl, HTab3.out.del x HM4.out HT4.out, (HT3.out.mono fun _ _ h => h.elim).trans HT4.out⟩)
        rw [HOwn.out] at hy
        exact of_decide_eq_false (HN.out y hy)
end Go.Proofs.YtiohpmcedfbcgabDoor
