/- The document's processes: Fork. Conditions: each theorem's own premises. -/
import Derived.Test.YtiohpmcedfbcgabDoorRefSig
import Derived.Test.YtiohpmcedfbcgabDoorMapRange
import Derived.Deep.LoopGhost
import Derived.BigRegion
namespace Go.Proofs.YtiohpmcedfbcgabDoor
open Go.RowKit
set_option linter.unusedVariables false

theorem refFork_missing {w : World} {rb pm : Nat} {l : List (Int × Nat)} {f : Nat → Pr} {G : Nat → DP} {M : Nat → List (Int × Int)} (h : DocIs w rb pm l G M) (hc : Coup l f G M) (pid : Int) (hr : ¬ RunsIn l f pid) :
    Calls Tryd.prog 33 #[.pointer (some ⟨rb, 0, none⟩), .int .i64 pid] w fun e w' => e = .returned (.tuple #[.int .i64 0, .int .i64 7]) ∧ w = w' := by
  have HR := hid (refRuns_no h hc pid hr)
  clear h hc hr
  go_enter Tryd.func33, Tryd.ntmps33
  go_wp2_with fail
  refine HR.out.mono ?_
  rintro e w1 ⟨rfl, rfl⟩
  go_wp2_with fail
  go_ret2
  exact ⟨rfl, rfl⟩
theorem dmap_length (l : List (Int × Nat)) (G : Nat → DP) : (dmap l G).length = l.length := by unfold dmap; simp
theorem refFork_full {w : World} {rb pm : Nat} {l : List (Int × Nat)} {f : Nat → Pr} {G : Nat → DP} {M : Nat → List (Int × Int)} (h : DocIs w rb pm l G M) (hc : Coup l f G M) (pid : Int) (hr : RunsIn l f pid) (hl : 24 ≤ l.length) :
    Calls Tryd.prog 33 #[.pointer (some ⟨rb, 0, none⟩), .int .i64 pid] w fun e w' => e = .returned (.tuple #[.int .i64 0, .int .i64 12]) ∧ w = w' := by
  have HR := hid (refRuns_yes h hc pid hr)
  have HMp := hid h.mp
  have hh := h.hdr
  have hl' : (24 : Int) ≤ (dmap l G).length := by rw [dmap_length]; omega
  clear h hc hr
  go_enter Tryd.func33, Tryd.ntmps33
  go_wp2_with fail
  refine HR.out.mono ?_
  rintro e w1 ⟨rfl, rfl⟩
  go_wp2_with (at_len; refine wpList_maplen rfl _ 77 3 76 rfl Tryd.underlying77 pm rfl HMp.out ?_)
  go_ret2
  exact ⟨rfl, rfl⟩

theorem SigM.congr {m m2 : List (Int × Int)} {x : Int} (h : SigM m x) (e : ∀ s, mget m2 s = mget m s) : SigM m2 x := by
  obtain ⟨X, h1, h2, h3⟩ := h
  exact ⟨X, h1, h2, fun s => by rw [e, h3]⟩
/-- The new process's cells. -/
structure NewCells (w : World) (b : Nat) (pid : Int) (nb1 nb2 : Nat) : Prop where
  c0 : w.cell? ⟨b, 0, none⟩ = some (.int .i64 pid)
  c1 : w.cell? ⟨b, 1, none⟩ = some (.int .i64 1)
  c2 : w.cell? ⟨b, 2, none⟩ = some (.int .i64 0)
  c3 : w.cell? ⟨b, 3, none⟩ = some (.map (some nb1))
  c4 : w.cell? ⟨b, 4, none⟩ = some (.map (some nb2))
theorem NewCells.turned {S : Nat → Prop} {w w' : World} {b : Nat} {pid : Int} {nb1 nb2 : Nat} (h : NewCells w b pid nb1 nb2) (t : Turn S w w') (hn : ¬ S b) : NewCells w' b pid nb1 nb2 :=
  ⟨(t.cell (a := ⟨b, 0, none⟩) (lt_of_cell h.c0) hn).trans h.c0, (t.cell (a := ⟨b, 1, none⟩) (lt_of_cell h.c1) hn).trans h.c1, (t.cell (a := ⟨b, 2, none⟩) (lt_of_cell h.c2) hn).trans h.c2, (t.cell (a := ⟨b, 3, none⟩) (lt_of_cell h.c3) hn).trans h.c3, (t.cell (a := ⟨b, 4, none⟩) (lt_of_cell h.c4) hn).trans h.c4⟩

set_option maxHeartbeats 4000000 in
set_option maxRecDepth 100000 in
theorem refFork_runs {w : World} {rb pm : Nat} {l : List (Int × Nat)} {f : Nat → Pr} {G : Nat → DP} {M : Nat → List (Int × Int)} (h : DocIs w rb pm l G M) (hc : Coup l f G M) (hk : Kin l f) (pid : Int) (b c k : Nat) (hr : RunsIn l f pid) (hb : mget l pid = some b) (hl : l.length < 24)
    (hk1 : 1 ≤ k) (hk24 : k ≤ 24) (hkn : mget l (k : Int) = none) (hks : ∀ i : Int, 1 ≤ i → i < k → (mget l i).isSome = true) (hcn : ∀ t ∈ l, t.2 ≠ c) :
    Calls Tryd.prog 33 #[.pointer (some ⟨rb, 0, none⟩), .int .i64 pid] w fun e w' => e = .returned (.tuple #[.int .i64 k, .int .i64 0]) ∧ DocAfter rb pm l G w w' (l ++ [((k : Int), c)]) (updP f c ⟨pid, 1, 0, 0, (f b).ignores⟩) := by
  have hmm := @run_makeMap Tryd.prog
  have HR := hid (refRuns_yes h hc pid hr)
  have hm := mem_of_mget hb
  have HMp := hid h.mp
  have hh := h.hdr
  have hl' : ¬ (24 : Int) ≤ (dmap l G).length := by rw [dmap_length]; omega
  have hf1 := @fld1
  have hf4 := @fld4
  have HD := hid h
  have HC := hid hc
  have HM := hid hm
  have HB := hid hb
  have HKn := hid hkn
  have HKs := hid hks
  have HCn := hid hcn
  have HSt := hid hk.st
  clear h hc hr hm hb hkn hks hcn hk
  go_enter Tryd.func33, Tryd.ntmps33
  go_wp2_with fail
  refine HR.out.mono ?_
  rintro e w1 ⟨rfl, rfl⟩
  go_wp2_with (at_len; refine wpList_maplen rfl _ 77 3 76 rfl Tryd.underlying77 pm rfl HMp.out ?_)
  go_loop [6] (fun i => ∃ j : Nat, 1 ≤ j ∧ j ≤ k ∧ i = .int .i64 j) (fun i => 100 - (intOf i).toNat)
  case atStart => exact ⟨1, Nat.le_refl _, hk1, rfl⟩
  case round =>
    obtain ⟨j, hj1, hjk, rfl⟩ := hrel
    have lk := lookup_doc HD.out (j : Int)
    unfold whereD at lk
    by_cases hjl : j < k
    · obtain ⟨b2, hb2⟩ := Option.isSome_iff_exists.1 (HKs.out j (by omega) (by omega))
      rw [hb2] at lk
      simp only [Option.elim, encDP] at lk
      have hst : ((G b2).state != 0) = true := by
        rw [stD HC.out hb2]
        rcases HSt.out _ (mem_of_mget hb2) with e | e <;> (simp only at e; rw [e]; decide)
      clear hb2
      go_wp2_with fail
      go_round
      case rel => exact ⟨j + 1, by omega, by omega, by go_num⟩
      case measure => simp [intOf]; omega
    · obtain rfl : j = k := by omega
      rw [HKn.out] at lk
      simp only [Option.elim, zeroD] at lk
      go_upto_region 9 with fail
      have T3 : Turn (fun _ => False) w (((w.alloc (.map #[] 0)).alloc (.map #[] 0)).alloc (.cells #[.int .i64 pid, .int .i64 1, .int .i64 0, .map (some w.heap.size), .map (some (w.heap.size + 1))] 76)) := (((Turn.refl _ _).alloc _).alloc _).alloc _
      have N1 : MapIs (((w.alloc (.map #[] 0)).alloc (.map #[] 0)).alloc (.cells #[.int .i64 pid, .int .i64 1, .int .i64 0, .map (some w.heap.size), .map (some (w.heap.size + 1))] 76)) w.heap.size (.int .i64) encI encN ([] : List (Int × Int)) := (MapIs.made w).turned (((Turn.refl (fun _ => False) _).alloc _).alloc _) id
      have N2 : MapIs (((w.alloc (.map #[] 0)).alloc (.map #[] 0)).alloc (.cells #[.int .i64 pid, .int .i64 1, .int .i64 0, .map (some w.heap.size), .map (some (w.heap.size + 1))] 76)) (w.heap.size + 1) (.int .i64) encI encN ([] : List (Int × Int)) := by
        have h := (MapIs.made (d := .int .i64) (enc := encI) (val := encN) (w.alloc (.map #[] 0)) : MapIs _ _ _ _ _ ([] : List (Int × Int)))
        rw [World.size_alloc] at h
        exact h.turned ((Turn.refl (fun _ => False) _).alloc _) id
      have NC : NewCells (((w.alloc (.map #[] 0)).alloc (.map #[] 0)).alloc (.cells #[.int .i64 pid, .int .i64 1, .int .i64 0, .map (some w.heap.size), .map (some (w.heap.size + 1))] 76)) (w.heap.size + 1 + 1) pid w.heap.size (w.heap.size + 1) := by
        have hz : ((w.alloc (.map #[] 0)).alloc (.map #[] 0)).heap.size = w.heap.size + 1 + 1 := by rw [World.size_alloc, World.size_alloc]
        rw [← hz]
        exact ⟨World.cell?_alloc_new _ _ _ _, World.cell?_alloc_new _ _ _ _, World.cell?_alloc_new _ _ _ _, World.cell?_alloc_new _ _ _ _, World.cell?_alloc_new _ _ _ _⟩
      have hs3 : (((w.alloc (.map #[] 0)).alloc (.map #[] 0)).alloc (.cells #[.int .i64 pid, .int .i64 1, .int .i64 0, .map (some w.heap.size), .map (some (w.heap.size + 1))] 76)).heap.size = w.heap.size + 1 + 1 + 1 := by rw [World.size_alloc, World.size_alloc, World.size_alloc]
      generalize ((w.alloc (.map #[] 0)).alloc (.map #[] 0)).alloc (.cells #[.int .i64 pid, .int .i64 1, .int .i64 0, .map (some w.heap.size), .map (some (w.heap.size + 1))] 76) = W3 at *
      obtain ⟨n1, hn1⟩ : ∃ n, w.heap.size = n := ⟨_, rfl⟩
      rw [hn1] at N1 N2 NC hs3
      rw [hn1]
      have HN1 := hid N1
      have HN2 := hid N2
      have HNC := hid NC
      have HT3 := hid T3
      have HW := hid hn1
      have hD3 := HD.out.turned T3 (fun _ _ => id)
      have HD3 := hid hD3
      have hh3 := hD3.hdr
      have lk3 := lookup_doc hD3 pid
      unfold whereD at lk3
      rw [HB.out] at lk3
      simp only [Option.elim, encDP] at lk3
      have HSi := hid (hD3.si _ HM.out)
      clear N1 N2 NC T3 hn1 lk hD3
      go_wp2_with (at_range; refine wpList_maprange rfl _ _ 3 3 rfl Tryd.underlying33 rfl HSi.out ?_; intro w4 hR4 t4 hs4; have HR4 := hid hR4; have HT4 := hid t4; have HS4 := hid hs4; clear hR4 t4 hs4)
      rw [hs3] at HR4
      clear hs3 hh3 lk3
      have HD4 := hid (HD3.out.turned HT4.out (fun _ _ => id))
      have HN1' := hid (HN1.out.turned HT4.out id)
      have HN2' := hid (HN2.out.turned HT4.out id)
      have HNC' := hid (HNC.out.turned HT4.out id)
      have HT4' := hid (HT3.out.trans HT4.out)
      clear HD3 HN1 HN2 HNC HT3 HT4 HSi HS4
      go_loopg [8, 9] ((M (G b).ib).length) (fun gl _ _ wr => ∃ (seenK : Int → Prop) (m2 : List (Int × Int)), Hid (RangeOf wr (G b).ib (n1 + 1 + 1 + 1) encI encN (M (G b).ib) seenK gl) ∧ Hid (MapIs wr (n1 + 1) (.int .i64) encI encN m2) ∧ Hid (∀ s, (seenK s → mget m2 s = mget (M (G b).ib) s) ∧ (¬ seenK s → mget m2 s = none)) ∧ Hid (DocIs wr rb pm l G M) ∧ Hid (MapIs wr n1 (.int .i64) encI encN ([] : List (Int × Int))) ∧ Hid (NewCells wr (n1 + 1 + 1) pid n1 (n1 + 1)) ∧ Hid (Turn (fun _ => False) w wr))
      case atStart => exact ⟨fun _ => False, [], HR4, HN2', hid (fun s => ⟨fun h => h.elim, fun _ => rfl⟩), HD4, HN1', HNC', HT4'⟩
      case round =>
        clear HR4 HN2' HD4 HN1' HNC' HT4'
        obtain ⟨seenK, m2, hR, hN2, hS, hD, hN1, hNC, hT⟩ := hrel
        have hfl := hid (fun (x : Nat) (hx : DFoot rb pm l G x) => show x < n1 from by have := HD.out.foot_lt x hx; have := HW.out; omega)
        go_wp2_with (at_next; refine wpList_mapnext rfl _ rfl rfl hR.out ?_ ?_)
        · intro hall
          have HAll := hid hall
          clear hall
          have hDd := hD.out.turned (Turn.refl (fun _ => False) wr).drew (fun _ _ => id)
          obtain ⟨w7, hrun, hm7, t7⟩ := hDd.mp.run_update keyI Tryd.underlying77 Tryd.underlying3 (j : Int) (DP.mk pid 1 0 n1 (n1 + 1))
          rw [dmap_put_new HKn.out HCn.out] at hm7
          have HM7 := hid hm7
          have HT7 := hid t7
          have HDd := hid hDd
          simp only [encI, encDP] at hrun
          have hh7 := hD.out.hdr
          have e0 := hNC.out.c0
          have e1 := hNC.out.c1
          have e2 := hNC.out.c2
          have e3 := hNC.out.c3
          have e4 := hNC.out.c4
          clear hm7 t7 hDd
          go_wp2_with fail
          go_region
          all_goals go_wp2_with fail
          all_goals go_ret2
          all_goals
            have hpmn : pm < n1 := hfl.out pm (.inr (.inl rfl))
            have T7 : Turn (fun x => x = pm) wr w7 := ((Turn.refl (fun _ => False) wr).drew.mono fun _ _ h => h.elim).trans HT7.out
            have hget : ∀ s, mget m2 s = mget (M (G b).ib) s := fun s => by
              by_cases e : seenK s
              · exact (hS.out s).1 e
              · rw [(hS.out s).2 e]
                cases e2 : mget (M (G b).ib) s with
                | none => rfl
                | some v => exact absurd (HAll.out s v (mem_of_mget e2)) e
            have hGo : ∀ t ∈ l, updG G c (DP.mk pid 1 0 n1 (n1 + 1)) t.2 = G t.2 := fun t ht => updG_other _ _ (HCn.out t ht)
            have hMo : ∀ x, x < n1 → updM (updM M n1 []) (n1 + 1) m2 x = M x := fun x hx => by rw [updM_other _ _ (by omega), updM_other _ _ (by omega)]
            have hw1 : ∀ t ∈ l, (G t.2).wb < n1 := fun t ht => hfl.out _ (.inr (.inr ⟨t, ht, .inl rfl⟩))
            have hi1 : ∀ t ∈ l, (G t.2).ib < n1 := fun t ht => hfl.out _ (.inr (.inr ⟨t, ht, .inr rfl⟩))
            have hGc : updG G c (DP.mk pid 1 0 n1 (n1 + 1)) c = DP.mk pid 1 0 n1 (n1 + 1) := updG_same _ _ _
            have hm1 : updM (updM M n1 []) (n1 + 1) m2 n1 = [] := by rw [updM_other _ _ (by omega), updM_same]
            have hm2 : updM (updM M n1 []) (n1 + 1) m2 (n1 + 1) = m2 := updM_same _ _ _
            have hrbn : rb < n1 := hfl.out rb (.inl rfl)
            refine ⟨rfl, updG G c (DP.mk pid 1 0 n1 (n1 + 1)), updM (updM M n1 []) (n1 + 1) m2, ⟨?_, HM7.out, fun t ht => ?_, fun t ht => ?_, fun t ht => ?_, fun t ht s hs hne => ?_, HD.out.ne⟩, fun t ht => ?_, ?_, fun x hx => ?_⟩
            · exact (T7.cell (a := ⟨rb, 0, none⟩) (lt_of_cell hD.out.hdr) HD.out.ne).trans hD.out.hdr
            · rcases List.mem_append.1 ht with ht | ht
              · rw [hGo t ht, hMo _ (hw1 t ht)]
                exact (hD.out.sw t ht).turned T7 (HD.out.ap t ht).1.2
              · rw [List.mem_singleton.1 ht, hGc]
                simp only
                rw [hm1]
                exact hN1.out.turned T7 (by omega)
            · rcases List.mem_append.1 ht with ht | ht
              · rw [hGo t ht, hMo _ (hi1 t ht)]
                exact (hD.out.si t ht).turned T7 (HD.out.ap t ht).2.1.2
              · rw [List.mem_singleton.1 ht, hGc]
                simp only
                rw [hm2]
                exact hN2.out.turned T7 (by omega)
            · rcases List.mem_append.1 ht with ht | ht
              · rw [hGo t ht]; exact HD.out.ap t ht
              · rw [List.mem_singleton.1 ht, hGc]
                exact ⟨⟨by simp only; omega, by simp only; omega⟩, ⟨by simp only; omega, by simp only; omega⟩, by simp only; omega⟩
            · rcases List.mem_append.1 ht with ht | ht <;> rcases List.mem_append.1 hs with hs | hs
              · rw [hGo t ht, hGo s hs]; exact HD.out.inj t ht s hs hne
              · have h1 := hw1 t ht
                have h2 := hi1 t ht
                rw [hGo t ht, List.mem_singleton.1 hs, hGc]
                exact ⟨by simp only; omega, by simp only; omega, by simp only; omega⟩
              · have h1 := hw1 s hs
                have h2 := hi1 s hs
                rw [hGo s hs, List.mem_singleton.1 ht, hGc]
                exact ⟨by simp only; omega, by simp only; omega, by simp only; omega⟩
              · rw [List.mem_singleton.1 ht, List.mem_singleton.1 hs] at hne
                exact absurd rfl hne
            · rcases List.mem_append.1 ht with ht | ht
              · rw [hGo t ht, hMo _ (hw1 t ht), hMo _ (hi1 t ht), updP_other _ _ (HCn.out t ht)]
                exact HC.out t ht
              · rw [List.mem_singleton.1 ht, hGc, updP_same]
                simp only
                rw [hm1, hm2]
                refine ⟨trivial, trivial, trivial, ⟨0, rfl, by decide, fun s => ?_⟩, (HC.out _ HM.out).2.2.2.2.congr hget⟩
                rw [if_neg (by simp)]; rfl
            · exact (hT.out.mono fun _ _ h => h.elim).trans (T7.mono fun x _ e => .inr (.inl e))
            · have := HW.out
              rcases hx with e | e | ⟨t, ht, e⟩
              · exact .inl (.inl e)
              · exact .inl (.inr (.inl e))
              · rcases List.mem_append.1 ht with ht | ht
                · rw [hGo t ht] at e
                  exact .inl (.inr (.inr ⟨t, ht, e⟩))
                · rw [List.mem_singleton.1 ht, hGc] at e
                  simp only at e
                  right; omega
        · intro sg n w5 cnt' hpm hns hR5 hlt5 t5 hsz5 hen
          (try simp only at hns hen)
          have HPm := hid hpm
          have HNs := hid hns
          have HR5 := hid hR5
          have hD5 := hid (hD.out.turned t5 (fun k hk e => by have := hfl.out k hk; omega))
          have hN25 := hid (hN2.out.turned t5 (by omega))
          have hN15 := hid (hN1.out.turned t5 (by omega))
          have hNC5 := hid (hNC.out.turned t5 (by omega))
          have hT5 := hid (hT.out.trans' t5 (fun k hk e => by have := HW.out; omega))
          have c4 := hNC5.out.c4
          clear hpm hns hR5 t5 hsz5
          unfold encI encN at hen
          go_wp2_with (at_mapUpdate; refine wpList_mapput rfl _ _ _ 33 3 3 rfl Tryd.underlying33 Tryd.underlying3 keyI (n1 + 1) rfl hN25.out sg rfl n rfl ?_; intro w6 hm6 t6; have HM6 := hid hm6; have HT6 := hid t6; clear hm6 t6)
          go_roundg cnt'
          case measure => omega
          case rel =>
            refine ⟨_, mput m2 sg n, hid (HR5.out.turned HT6.out (fun e => ?_) (by omega)), HM6, hid (fun s => ⟨fun h => ?_, fun h => ?_⟩), hid (hD5.out.turned HT6.out (fun k hk e => by have := hfl.out k hk; omega)), hid (hN15.out.turned HT6.out (by omega)), hid (hNC5.out.turned HT6.out (by omega)), hid (hT5.out.trans' HT6.out (fun k hk e => by have := HW.out; omega))⟩
            · have := hfl.out (G b).ib (.inr (.inr ⟨_, HM.out, .inr rfl⟩)); omega
            · rw [mget_mput]
              by_cases e : s = sg
              · subst e
                rw [if_pos rfl]
                exact (mget_mem (HD.out.si _ HM.out).nodup HPm.out).symm
              · rw [if_neg e]
                exact (hS.out s).1 (h.resolve_right e)
            · rw [mget_mput, if_neg (fun e => h (.inr e))]
              exact (hS.out s).2 (fun h2 => h (.inl h2))
end Go.Proofs.YtiohpmcedfbcgabDoor
