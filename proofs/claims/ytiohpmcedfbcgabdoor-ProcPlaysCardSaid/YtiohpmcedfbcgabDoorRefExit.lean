/- The document's processes: Exit. Conditions: each theorem's own premises. -/
import Derived.Test.YtiohpmcedfbcgabDoorRefFork
import Derived.Test.YtiohpmcedfbcgabDoorMapStore
import Derived.Deep.DeepCutAuto
namespace Go.Proofs.YtiohpmcedfbcgabDoor
open Go.RowKit
set_option linter.unusedVariables false

theorem refExit_missing {w : World} {rb pm : Nat} {l : List (Int × Nat)} {f : Nat → Pr} {G : Nat → DP} {M : Nat → List (Int × Int)} (h : DocIs w rb pm l G M) (hc : Coup l f G M) (pid c : Int) (hr : ¬ RunsIn l f pid) :
    Calls Tryd.prog 35 #[.pointer (some ⟨rb, 0, none⟩), .int .i64 pid, .int .i64 c] w fun e w' => e = .returned (.int .i64 7) ∧ w = w' := by
  have HR := hid (refRuns_no h hc pid hr)
  clear h hc hr
  go_enter Tryd.func35, Tryd.ntmps35
  go_wp2_with fail
  refine HR.out.mono ?_
  rintro e w1 ⟨rfl, rfl⟩
  go_wp2_with fail
  go_ret
  exact ⟨rfl, rfl⟩
theorem refExit_one {w : World} {rb pm : Nat} {l : List (Int × Nat)} {f : Nat → Pr} {G : Nat → DP} {M : Nat → List (Int × Int)} (h : DocIs w rb pm l G M) (hc : Coup l f G M) (c : Int) (hr : RunsIn l f 1) :
    Calls Tryd.prog 35 #[.pointer (some ⟨rb, 0, none⟩), .int .i64 1, .int .i64 c] w fun e w' => e = .returned (.int .i64 6) ∧ w = w' := by
  have HR := hid (refRuns_yes h hc 1 hr)
  clear h hc hr
  go_enter Tryd.func35, Tryd.ntmps35
  go_wp2_with fail
  refine HR.out.mono ?_
  rintro e w1 ⟨rfl, rfl⟩
  go_wp2_with fail
  go_ret
  exact ⟨rfl, rfl⟩

def CoupAt (p : Pr) (q : DP) (M : Nat → List (Int × Int)) : Prop := q.parent = p.parent ∧ q.state = p.state ∧ q.code = p.code ∧ SigM (M q.wb) p.waits ∧ SigM (M q.ib) p.ignores
section
variable {W' w7 : World} {rb pm : Nat} {l : List (Int × Nat)} {G : Nat → DP} {M : Nat → List (Int × Int)}
theorem DocIs.reput (h : DocIs W' rb pm l G M) {b2 : Nat} {q : DP} {mm : List (Int × Int)} (hm7 : MapIs w7 pm (.int .i64) encI encDP (dmap l (updG G b2 q))) (t : Turn (fun j => j = pm) W' w7) (hw : MapIs W' q.wb (.int .i64) encI encN mm) (hib : q.ib = (G b2).ib)
    (hne : ∀ s ∈ l, (G s.2).ib ≠ q.wb ∧ (s.2 ≠ b2 → (G s.2).wb ≠ q.wb)) (h1 : q.wb ≠ rb) (h2 : q.wb ≠ pm) : DocIs w7 rb pm l (updG G b2 q) (updM M q.wb mm) := by
  refine ⟨(t.cell (a := ⟨rb, 0, none⟩) (lt_of_cell h.hdr) h.ne).trans h.hdr, hm7, fun s hs => ?_, fun s hs => ?_, fun s hs => ?_, fun s hs s' hs' hn => ?_, h.ne⟩
  · by_cases e : s.2 = b2
    · rw [e, updG_same, updM_same]
      exact hw.turned t h2
    · rw [updG_other _ _ e, updM_other _ _ ((hne s hs).2 e)]
      exact (h.sw s hs).turned t (h.ap s hs).1.2
  · by_cases e : s.2 = b2
    · have h3 := (hne s hs).1
      have h4 := h.si s hs
      have h5 := (h.ap s hs).2.1.2
      rw [e] at h3 h4 h5
      rw [e, updG_same, hib, updM_other _ _ h3]
      exact h4.turned t h5
    · rw [updG_other _ _ e, updM_other _ _ (hne s hs).1]
      exact (h.si s hs).turned t (h.ap s hs).2.1.2
  · by_cases e : s.2 = b2
    · have h3 := (hne s hs).1
      have h5 := h.ap s hs
      rw [e] at h3 h5
      rw [e, updG_same, hib]
      exact ⟨⟨h1, h2⟩, h5.2.1, fun e => h3 e.symm⟩
    · rw [updG_other _ _ e]; exact h.ap s hs
  · by_cases e : s.2 = b2
    · have e' : s'.2 ≠ b2 := fun e' => hn (e.trans e'.symm)
      have h3 := h.inj s hs s' hs' hn
      rw [e] at h3
      rw [e, updG_same, updG_other _ _ e', hib]
      exact ⟨fun e => (hne s' hs').2 e' e.symm, h3.2.1, fun e => (hne s' hs').1 e.symm⟩
    · by_cases e' : s'.2 = b2
      · have h3 := h.inj s hs s' hs' hn
        rw [e'] at h3
        rw [e', updG_same, updG_other _ _ e, hib]
        exact ⟨(hne s hs).2 e, h3.2.1, h3.2.2⟩
      · rw [updG_other _ _ e, updG_other _ _ e']
        exact h.inj s hs s' hs' hn
theorem updM_self (M : Nat → List (Int × Int)) (x : Nat) : updM M x (M x) = M := by
  funext j
  by_cases e : j = x
  · subst e; rw [updM_same]
  · rw [updM_other _ _ e]
theorem CoupAt.kept {p : Pr} {q : DP} (h : CoupAt p q M) {x : Nat} {mm : List (Int × Int)} (h1 : q.wb ≠ x) (h2 : q.ib ≠ x) : CoupAt p q (updM M x mm) := by
  unfold CoupAt at h ⊢
  rw [updM_other _ _ h1, updM_other _ _ h2]
  exact h
end

/-- What Exit keeps from round to round. -/
structure Exiting (w wr : World) (rb pm r : Nat) (l : List (Int × Nat)) (f : Nat → Pr) (b : Nat) (pid c : Int) (G0 G : Nat → DP) (M : Nat → List (Int × Int)) (seenK : Int → Prop) (cnt : Nat) : Prop where
  rg : RangeOf wr pm r encI encDP (dmap l G) seenK cnt
  doc : DocIs wr rb pm l G M
  cp : ∀ t ∈ l, (seenK t.1 → CoupAt (exitF f b pid c t.2) (G t.2) M) ∧ (¬ seenK t.1 → CoupAt (f t.2) (G t.2) M)
  foot : ∀ k, DFoot rb pm l G k → (DFoot rb pm l G0 k ∨ w.heap.size ≤ k) ∧ k ≠ r
  turn : Turn (fun k => k = pm) w wr
  wr_ : w.heap.size ≤ r
/-- A round: what is put back. -/
theorem Exiting.step {w wr w5 Wq w7 : World} {rb pm r : Nat} {l : List (Int × Nat)} {f : Nat → Pr} {b : Nat} {pid c : Int} {G0 G : Nat → DP} {M : Nat → List (Int × Int)} {seenK : Int → Prop} {cnt cnt' : Nat} (h : Exiting w wr rb pm r l f b pid c G0 G M seenK cnt) (hn : MNodup l) (hi : (l.map (·.2)).Nodup)
    {k : Int} {b2 : Nat} (hkb : (k, b2) ∈ l) (t5 : Turn (fun j => j = r) wr w5) (tq : Turn (fun _ => False) w5 Wq) {q : DP} {mm : List (Int × Int)}
    (hR7 : RangeOf w7 pm r encI encDP (mput (dmap l G) k q) (fun x => seenK x ∨ x = k) cnt') (hm7 : MapIs w7 pm (.int .i64) encI encDP (mput (dmap l G) k q)) (t7 : Turn (fun j => j = pm) Wq w7)
    (hw : MapIs Wq q.wb (.int .i64) encI encN mm) (hib : q.ib = (G b2).ib) (hwb : (q.wb = (G b2).wb ∧ mm = M q.wb) ∨ (wr.heap.size ≤ q.wb ∧ q.wb ≠ r)) (hcp : CoupAt (exitF f b pid c b2) q (updM M q.wb mm)) :
    Exiting w w7 rb pm r l f b pid c G0 (updG G b2 q) (updM M q.wb mm) (fun x => seenK x ∨ x = k) cnt' := by
  have hmg : mget l k = some b2 := mget_mem hn hkb
  rw [dmap_put_old hmg hn hi] at hR7 hm7
  have t5q : Turn (fun j => j = r) wr Wq := t5.trans (tq.mono fun _ _ h => h.elim)
  have hDq : DocIs Wq rb pm l G M := h.doc.turned t5q (fun x hx e => (h.foot x hx).2 e)
  have hlt := fun x hx => h.doc.foot_lt x hx
  have hne : ∀ s ∈ l, (G s.2).ib ≠ q.wb ∧ (s.2 ≠ b2 → (G s.2).wb ≠ q.wb) := fun s hs => by
    rcases hwb with ⟨e, _⟩ | ⟨e, _⟩
    · rw [e]
      by_cases e2 : s.2 = b2
      · refine ⟨?_, fun h => absurd e2 h⟩
        rw [e2]
        exact fun e3 => (h.doc.ap _ hkb).2.2 e3.symm
      · exact ⟨fun e3 => (h.doc.inj _ hkb s hs (fun e => e2 e.symm)).2.2 e3.symm, fun _ => (h.doc.inj s hs _ hkb e2).1⟩
    · have h1 := hlt _ (.inr (.inr ⟨s, hs, .inl rfl⟩))
      have h2 := hlt _ (.inr (.inr ⟨s, hs, .inr rfl⟩))
      exact ⟨by omega, fun _ => by omega⟩
  have hrp : q.wb ≠ rb ∧ q.wb ≠ pm := by
    rcases hwb with ⟨e, _⟩ | ⟨e, _⟩
    · rw [e]; exact (h.doc.ap _ hkb).1
    · have h1 := hlt rb (.inl rfl)
      have h2 := hlt pm (.inr (.inl rfl))
      omega
  refine ⟨hR7, hDq.reput hm7 t7 hw hib hne hrp.1 hrp.2, fun t ht => ?_, fun x hx => ?_, ?_, h.wr_⟩
  · by_cases e : t.2 = b2
    · have ek : t.1 = k := inj_mem hi (show (t.1, b2) ∈ l by rw [← e]; exact ht) hkb
      rw [e, updG_same]
      exact ⟨fun _ => hcp, fun hno => absurd (.inr ek) hno⟩
    · have ek : t.1 ≠ k := fun e2 => e (by
        have h1 := mget_mem hn (show (t.1, t.2) ∈ l from ht)
        rw [e2, hmg] at h1
        exact (Option.some.inj h1).symm)
      rw [updG_other _ _ e]
      exact ⟨fun hs => ((h.cp t ht).1 (hs.resolve_right ek)).kept ((hne t ht).2 e) (hne t ht).1, fun hno => ((h.cp t ht).2 (fun h2 => hno (.inl h2))).kept ((hne t ht).2 e) (hne t ht).1⟩
  · have hwr := h.turn.size
    rcases hx with rfl | rfl | ⟨t, ht, e⟩
    · exact h.foot _ (.inl rfl)
    · exact h.foot _ (.inr (.inl rfl))
    · by_cases e2 : t.2 = b2
      · rw [e2, updG_same] at e
        rcases e with rfl | rfl
        · rcases hwb with ⟨e3, _⟩ | ⟨e3, e4⟩
          · rw [e3]; exact h.foot _ (.inr (.inr ⟨_, hkb, .inl rfl⟩))
          · exact ⟨.inr (by omega), e4⟩
        · rw [hib]; exact h.foot _ (.inr (.inr ⟨_, hkb, .inr rfl⟩))
      · rw [updG_other _ _ e2] at e
        exact h.foot x (.inr (.inr ⟨t, ht, e⟩))
  · exact (h.turn.trans' t5q (fun x hx e => by have := h.wr_; omega)).trans t7

theorem coup_dead {f : Nat → Pr} {b : Nat} {pid c : Int} {q : DP} {M : Nat → List (Int × Int)} {x : Nat} (h : CoupAt (f b) q M) (hx : q.ib ≠ x) : CoupAt (exitF f b pid c b) ⟨if q.parent = pid then 1 else q.parent, 2, c, x, q.ib⟩ (updM M x []) := by
  obtain ⟨h1, h2, h3, h4, h5⟩ := h
  obtain ⟨e1, e2, e3, e4⟩ := exitF_self f b pid c
  refine ⟨?_, e1.symm, e4.symm, ?_, ?_⟩
  · rw [exitF_parent, ← h1]
  · simp only
    rw [updM_same, e2]
    exact ⟨0, rfl, by decide, fun s => by rw [if_neg (by simp)]; rfl⟩
  · simp only
    rw [updM_other _ _ hx, e3]
    exact h5
theorem coup_live {f : Nat → Pr} {b b2 : Nat} {pid c : Int} {q : DP} {M : Nat → List (Int × Int)} (h : CoupAt (f b2) q M) (hx : b2 ≠ b) : CoupAt (exitF f b pid c b2) ⟨if q.parent = pid then 1 else q.parent, q.state, q.code, q.wb, q.ib⟩ M := by
  obtain ⟨h1, h2, h3, h4, h5⟩ := h
  obtain ⟨e1, e2, e3, e4⟩ := exitF_other f pid c hx
  refine ⟨?_, ?_, ?_, ?_, ?_⟩
  · rw [exitF_parent, ← h1]
  · rw [e1]; exact h2
  · rw [e4]; exact h3
  · rw [e2]; exact h4
  · rw [e3]; exact h5
set_option maxHeartbeats 8000000 in
set_option maxRecDepth 100000 in
theorem refExit_runs {w : World} {rb pm : Nat} {l : List (Int × Nat)} {f : Nat → Pr} {G : Nat → DP} {M : Nat → List (Int × Int)} (h : DocIs w rb pm l G M) (hc : Coup l f G M) (hk : Kin l f) (pid c : Int) (b : Nat) (hr : RunsIn l f pid) (hb : mget l pid = some b) (h1 : pid ≠ 1) :
    Calls Tryd.prog 35 #[.pointer (some ⟨rb, 0, none⟩), .int .i64 pid, .int .i64 c] w fun e w' => e = .returned (.int .i64 0) ∧ DocAfter rb pm l G w w' l (exitF f b pid c) := by
  have hmm := @run_makeMap Tryd.prog
  have HR := hid (refRuns_yes h hc pid hr)
  have hne : (pid == 1) = false := by simp [h1]
  have hh := h.hdr
  have HD := hid h
  have HC := hid hc
  have HK := hid hk
  have HB := hid hb
  clear h hc hk hr hb h1
  go_enter Tryd.func35, Tryd.ntmps35
  go_wp2_with fail
  refine HR.out.mono ?_
  rintro e w1 ⟨rfl, rfl⟩
  go_wp2_with (at_range; refine wpList_maprange rfl _ _ 3 76 rfl Tryd.underlying77 rfl HD.out.mp ?_; intro w2 hR2 t2 hs2; have HR2 := hid hR2; have HT2 := hid t2; clear hR2 t2 hs2)
  obtain ⟨r, hrr⟩ : ∃ r, w.heap.size = r := ⟨_, rfl⟩
  rw [hrr] at HR2
  rw [hrr]
  have HE : Hid (Exiting w w2 rb pm r l f b pid c G G M (fun _ => False) (dmap l G).length) := hid ⟨HR2.out, HD.out.turned HT2.out (fun _ _ => id), fun t ht => ⟨fun h => h.elim, fun _ => HC.out t ht⟩, fun k hk => ⟨.inl hk, by have := HD.out.foot_lt k hk; omega⟩, HT2.out.mono fun _ _ h => h.elim, by omega⟩
  clear HR2 HT2 hrr hh
  go_frame
  go_loopg [7] ((dmap l G).length) (fun gl _ wr => ∃ (seenK : Int → Prop) (G' : Nat → DP) (M' : Nat → List (Int × Int)), Hid (Exiting w wr rb pm r l f b pid c G G' M' seenK gl))
  case atStart => exact ⟨_, _, _, HE⟩
  case round =>
    clear HE
    obtain ⟨seenK, G', M', hE⟩ := hrel
    have hh := hE.out.doc.hdr
    go_wp2_with (at_next; refine wpList_mapnext rfl _ rfl rfl hE.out.rg ?_ ?_)
    · intro hall
      have HAll := hid hall
      clear hall
      go_wp2_with fail
      go_ret
      refine ⟨rfl, G', M', hE.out.doc, fun t ht => ?_, hE.out.turn.mono (fun _ _ e => .inr (.inl e)), fun k hk => (hE.out.foot k hk).1⟩
      exact (hE.out.cp t ht).1 (HAll.out t.1 (G' t.2) (List.mem_map.2 ⟨t, ht, rfl⟩))
    · intro k q w5 cnt' hpm hns hR5 hlt5 t5 hsz5 hen
      (try simp only at hns hen)
      obtain ⟨⟨k0, b2⟩, hkb, he⟩ := List.mem_map.1 hpm
      simp only [Prod.mk.injEq] at he
      obtain ⟨rfl, rfl⟩ := he
      have HKb := hid hkb
      have HR5 := hid hR5
      have HT5 := hid t5
      have hcp := (hE.out.cp _ hkb).2 hns
      simp only at hcp
      have HCp := hid hcp
      clear hpm hns hR5 t5 hsz5 hcp hkb
      unfold encI encDP at hen
      obtain ⟨q, hq⟩ : ∃ q, G' b2 = q := ⟨_, rfl⟩
      rw [hq] at hen
      have HQ := hid hq
      clear hq
      have hmg : mget (dmap l G') k0 = some (G' b2) := by rw [mget_dmap, mget_mem HK.out.nd HKb.out]; rfl
      have HRl : Hid (r < w5.heap.size) := hid HR5.out.lt.2.1
      have HIb : Hid (q.ib < w5.heap.size) := hid (by
        have h1 := hE.out.doc.foot_lt _ (.inr (.inr ⟨_, HKb.out, .inr rfl⟩))
        simp only at h1
        rw [HQ.out] at h1
        exact Nat.lt_of_lt_of_le h1 HT5.out.size)
      have HSw : Hid (MapIs w5 q.wb (.int .i64) encI encN (M' q.wb)) := hid (by
        have h1 := hE.out.doc.sw _ HKb.out
        simp only at h1
        rw [HQ.out] at h1
        have h2 := (hE.out.foot q.wb (.inr (.inr ⟨_, HKb.out, .inl (by simp only; rw [HQ.out])⟩))).2
        exact h1.turned HT5.out h2)
      have hh5 := (HT5.out.cell (a := ⟨rb, 0, none⟩) (lt_of_cell hh) (fun e => (hE.out.foot rb (.inl rfl)).2 e)).trans hh
      clear hh
      have hrbw : rb < w5.heap.size := lt_of_cell hh5
      have HMg := hid hmg
      clear hmg
      have hmg := HMg.out
      by_cases hkp : k0 = pid
      · subst hkp
        have hbb : b2 = b := by
          have e := mget_mem HK.out.nd HKb.out
          rw [HB.out] at e
          exact (Option.some.inj e).symm
        subst hbb
        by_cases hpp : q.parent = k0
        · have HPp := hid hpp
          go_upto_region 12 with fail
          have tq : Turn (fun _ => False) w5 ((w5.alloc (.cells #[.int .i64 1, .int .i64 2, .int .i64 c, .map (some (w5.heap.size + 1)), .map (some q.ib)] 76)).alloc (.map #[] 0)) := ((Turn.refl _ _).alloc _).alloc _
          have hRq := (HR5.out.turned tq id id).turned (Turn.refl (fun _ => False) _).drew id id
          obtain ⟨w7, hrun, hR7, hM7, t7⟩ := hRq.run_update keyI Tryd.underlying77 Tryd.underlying3 k0 (G' b2) hmg (DP.mk 1 2 c (w5.heap.size + 1) q.ib)
          simp only [encI, encDP] at hrun
          have HTq := hid (tq.drew)
          have HW := hid (show MapIs ((w5.alloc (.cells #[.int .i64 1, .int .i64 2, .int .i64 c, .map (some (w5.heap.size + 1)), .map (some q.ib)] 76)).alloc (.map #[] 0)).drew (w5.heap.size + 1) (.int .i64) encI encN ([] : List (Int × Int)) from by
            have h := (MapIs.made (d := .int .i64) (enc := encI) (val := encN) (w5.alloc (.cells #[.int .i64 1, .int .i64 2, .int .i64 c, .map (some (w5.heap.size + 1)), .map (some q.ib)] 76)) : MapIs _ _ _ _ _ ([] : List (Int × Int)))
            rw [World.size_alloc] at h
            exact h.turned (Turn.refl (fun _ => False) _).drew id)
          have HR7 := hid hR7
          have HM7 := hid hM7
          have HT7 := hid t7
          clear hRq hR7 hM7 t7 tq
          go_region
          all_goals go_wp2_with fail
          all_goals go_roundg cnt'
          case measure => omega
          case rel =>
            have hcd := coup_dead (pid := k0) (c := c) (x := w5.heap.size + 1) HCp.out (by rw [HQ.out]; have := HIb.out; omega)
            rw [HQ.out, if_pos HPp.out] at hcd
            exact ⟨_, _, _, hid (hE.out.step HK.out.nd HK.out.inj HKb.out HT5.out HTq.out HR7.out HM7.out HT7.out HW.out (by rw [HQ.out]) (.inr ⟨by have := HT5.out.size; simp only; omega, by have := HRl.out; simp only; omega⟩) hcd)⟩
        · have hpb : (q.parent == k0) = false := beq_eq_false_iff_ne.2 hpp
          have HPp := hid hpp
          clear hpp
          go_upto_region 12 with fail
          have tq : Turn (fun _ => False) w5 ((w5.alloc (.cells #[.int .i64 q.parent, .int .i64 2, .int .i64 c, .map (some (w5.heap.size + 1)), .map (some q.ib)] 76)).alloc (.map #[] 0)) := ((Turn.refl _ _).alloc _).alloc _
          have hRq := (HR5.out.turned tq id id).turned (Turn.refl (fun _ => False) _).drew id id
          obtain ⟨w7, hrun, hR7, hM7, t7⟩ := hRq.run_update keyI Tryd.underlying77 Tryd.underlying3 k0 (G' b2) hmg (DP.mk q.parent 2 c (w5.heap.size + 1) q.ib)
          simp only [encI, encDP] at hrun
          have HTq := hid (tq.drew)
          have HW := hid (show MapIs ((w5.alloc (.cells #[.int .i64 q.parent, .int .i64 2, .int .i64 c, .map (some (w5.heap.size + 1)), .map (some q.ib)] 76)).alloc (.map #[] 0)).drew (w5.heap.size + 1) (.int .i64) encI encN ([] : List (Int × Int)) from by
            have h := (MapIs.made (d := .int .i64) (enc := encI) (val := encN) (w5.alloc (.cells #[.int .i64 q.parent, .int .i64 2, .int .i64 c, .map (some (w5.heap.size + 1)), .map (some q.ib)] 76)) : MapIs _ _ _ _ _ ([] : List (Int × Int)))
            rw [World.size_alloc] at h
            exact h.turned (Turn.refl (fun _ => False) _).drew id)
          have HR7 := hid hR7
          have HM7 := hid hM7
          have HT7 := hid t7
          clear hRq hR7 hM7 t7 tq
          go_region
          all_goals go_wp2_with fail
          all_goals go_roundg cnt'
          case measure => omega
          case rel =>
            have hcd := coup_dead (pid := k0) (c := c) (x := w5.heap.size + 1) HCp.out (by rw [HQ.out]; have := HIb.out; omega)
            rw [HQ.out, if_neg HPp.out] at hcd
            exact ⟨_, _, _, hid (hE.out.step HK.out.nd HK.out.inj HKb.out HT5.out HTq.out HR7.out HM7.out HT7.out HW.out (by rw [HQ.out]) (.inr ⟨by have := HT5.out.size; simp only; omega, by have := HRl.out; simp only; omega⟩) hcd)⟩
      · have hb2 : b2 ≠ b := fun e => hkp (inj_mem HK.out.inj (by rw [← e]; exact HKb.out) (mem_of_mget HB.out))
        have hkb' : (k0 == pid) = false := beq_eq_false_iff_ne.2 hkp
        clear hkp
        by_cases hpp : q.parent = pid
        · have HPp := hid hpp
          go_upto_region 12 with fail
          have tq : Turn (fun _ => False) w5 (w5.alloc (.cells #[.int .i64 1, .int .i64 q.state, .int .i64 q.code, .map (some q.wb), .map (some q.ib)] 76)) := (Turn.refl _ _).alloc _
          have hRq := (HR5.out.turned tq id id).turned (Turn.refl (fun _ => False) _).drew id id
          obtain ⟨w7, hrun, hR7, hM7, t7⟩ := hRq.run_update keyI Tryd.underlying77 Tryd.underlying3 k0 (G' b2) hmg (DP.mk 1 q.state q.code q.wb q.ib)
          simp only [encI, encDP] at hrun
          have HTq := hid (tq.drew)
          have HW := hid (HSw.out.turned (tq.drew) id)
          have HR7 := hid hR7
          have HM7 := hid hM7
          have HT7 := hid t7
          clear hRq hR7 hM7 t7 tq
          go_region
          all_goals go_wp2_with fail
          all_goals go_roundg cnt'
          case measure => omega
          case rel =>
            have hcd := coup_live (pid := pid) (c := c) HCp.out hb2
            rw [HQ.out, if_pos HPp.out] at hcd
            rw [← updM_self M' q.wb] at hcd
            exact ⟨_, _, _, hid (hE.out.step HK.out.nd HK.out.inj HKb.out HT5.out HTq.out HR7.out HM7.out HT7.out HW.out (by rw [HQ.out]) (.inl ⟨by rw [HQ.out], rfl⟩) hcd)⟩
        · have hpb : (q.parent == pid) = false := beq_eq_false_iff_ne.2 hpp
          have HPp := hid hpp
          clear hpp
          go_upto_region 12 with fail
          have tq : Turn (fun _ => False) w5 (w5.alloc (.cells #[.int .i64 q.parent, .int .i64 q.state, .int .i64 q.code, .map (some q.wb), .map (some q.ib)] 76)) := (Turn.refl _ _).alloc _
          have hRq := (HR5.out.turned tq id id).turned (Turn.refl (fun _ => False) _).drew id id
          obtain ⟨w7, hrun, hR7, hM7, t7⟩ := hRq.run_update keyI Tryd.underlying77 Tryd.underlying3 k0 (G' b2) hmg (DP.mk q.parent q.state q.code q.wb q.ib)
          simp only [encI, encDP] at hrun
          have HTq := hid (tq.drew)
          have HW := hid (HSw.out.turned (tq.drew) id)
          have HR7 := hid hR7
          have HM7 := hid hM7
          have HT7 := hid t7
          clear hRq hR7 hM7 t7 tq
          go_region
          all_goals go_wp2_with fail
          all_goals go_roundg cnt'
          case measure => omega
          case rel =>
            have hcd := coup_live (pid := pid) (c := c) HCp.out hb2
            rw [HQ.out, if_neg HPp.out] at hcd
            rw [← updM_self M' q.wb] at hcd
            exact ⟨_, _, _, hid (hE.out.step HK.out.nd HK.out.inj HKb.out HT5.out HTq.out HR7.out HM7.out HT7.out HW.out (by rw [HQ.out]) (.inl ⟨by rw [HQ.out], rfl⟩) hcd)⟩
end Go.Proofs.YtiohpmcedfbcgabDoor
