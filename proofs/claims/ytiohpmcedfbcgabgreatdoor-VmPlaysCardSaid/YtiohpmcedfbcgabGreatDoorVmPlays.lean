/- VmPlays walked: true, and nothing that was there turns. Conditions: the variable errors.errorType holds what is laid; the arguments lie in memory. -/
import Derived.Test.YtiohpmcedfbcgabGreatDoorVmTwo
import Derived.Test.YtiohpmcedfbcgabGreatDoorVmLoad
import Derived.Test.YtiohpmcedfbcgabGreatDoorPlace
import Derived.Deep.RegionWith
import Derived.Deep.RegionHeld3
import Derived.Deep.LoopGhost
import Derived.Deep.DeepCutAuto
import Derived.Deep.CutBlock
import Derived.Deep.QuietTactic
import Derived.BigQuiet
import Derived.Outline
namespace Go.Proofs.YtiohpmcedfbcgabGreatDoor
open Go.RowKit
set_option linter.unusedVariables false

theorem bareV (z : Int) (w : World) (hg : Laid w) : Calls Tryz.prog 7 #[VmErr z, .int .i64 z] w fun e w' => e = .returned (.bool true) ∧ Turn (fun _ => False) w w' := by
  by_cases hz : z = 0
  · subst hz
    exact bare_nil w
  · have e : VmErr z = .iface 28 (.int .i64 z) := by unfold VmErr; rw [if_neg hz]
    rw [e]
    exact bare_errno z w hg
theorem infoSp : (Tryz.prog.info? 35).map (fun i => (i.zero, i.size, i.bytes)) = some (some (.pointer none), 1, 8) := by kernel_rfl
theorem infoRs : (Tryz.prog.info? 42).map (fun i => (i.zero, i.size, i.bytes)) = some (some (.map none), 1, 8) := by kernel_rfl
/-- Doings (which, of which space, three numbers, a word) lie from off on in block b. -/
abbrev Vs := Int × Int × Int × Int × Int × Int
def VsAt (w : World) (b off : Nat) (xs : List Vs) : Prop := ∀ (j : Nat) x, xs[j]? = some x →
  w.cell? ⟨b, off + j * 6, none⟩ = some (.int .i64 x.1) ∧ w.cell? ⟨b, off + j * 6 + 1, none⟩ = some (.int .i64 x.2.1) ∧ w.cell? ⟨b, off + j * 6 + 2, none⟩ = some (.int .i64 x.2.2.1) ∧ w.cell? ⟨b, off + j * 6 + 3, none⟩ = some (.int .i64 x.2.2.2.1) ∧ w.cell? ⟨b, off + j * 6 + 4, none⟩ = some (.int .i64 x.2.2.2.2.1) ∧ w.cell? ⟨b, off + j * 6 + 5, none⟩ = some (.int .i64 x.2.2.2.2.2)
theorem VsAt.turned {W w : World} {b off : Nat} {xs : List Vs} {S : Nat → Prop} (h : VsAt W b off xs) (t : Turn S W w) (hb : b < W.heap.size) (hn : ¬ S b) : VsAt w b off xs := fun j x hx => by
  obtain ⟨h0, h1, h2, h3, h4, h5⟩ := h j x hx
  exact ⟨(t.cell (a := ⟨b, _, none⟩) hb hn).trans h0, (t.cell (a := ⟨b, _, none⟩) hb hn).trans h1, (t.cell (a := ⟨b, _, none⟩) hb hn).trans h2, (t.cell (a := ⟨b, _, none⟩) hb hn).trans h3, (t.cell (a := ⟨b, _, none⟩) hb hn).trans h4, (t.cell (a := ⟨b, _, none⟩) hb hn).trans h5⟩
set_option maxRecDepth 100000 in
theorem vplays_out (n : Int) (v : Value) (w : World) (hL : Laid w) (h : n < 1 ∨ 256 < n) : Calls Tryz.prog 4 #[.int .i64 n, v] w fun e w' => e = .returned (.bool true) ∧ Turn (fun _ => False) w w' := by
  have HN := hid (vmNewStore_no n w h)
  have HB := hid (bare_errno 2 w hL)
  by_cases h1 : n < 1
  · clear h hL
    go_enter Tryz.func4, Tryz.ntmps4
    go_wp2_with fail
    refine HN.out.mono ?_
    rintro e w1 ⟨rfl, rfl⟩
    go_wp2_with fail
    refine HB.out.mono ?_
    rintro e w2 ⟨rfl, t2⟩
    have HT := hid t2
    clear t2
    go_wp2_with fail
    go_ret
    exact ⟨rfl, HT.out⟩
  · have h2 : 256 < n := h.resolve_left h1
    clear h hL
    go_enter Tryz.func4, Tryz.ntmps4
    go_wp2_with fail
    refine HN.out.mono ?_
    rintro e w1 ⟨rfl, rfl⟩
    go_wp2_with fail
    refine HB.out.mono ?_
    rintro e w2 ⟨rfl, t2⟩
    have HT := hid t2
    clear t2
    go_wp2_with fail
    go_ret
    exact ⟨rfl, HT.out⟩
set_option maxRecDepth 100000 in
theorem vplays_many (n : Nat) (a : Option Addr) (len cap : Nat) (w : World) (h1 : 1 ≤ n) (h2 : n ≤ 256) (hm : 60 < len) (hl : len ≤ 9223372036854775807) :
    Calls Tryz.prog 4 #[.int .i64 n, .slice a len cap] w fun e w' => e = .returned (.bool true) ∧ Turn (fun _ => False) w w' := by
  have HN := hid (vmNewStore_is n w h1 h2)
  have hm' : (60 : Int) < len := by omega
  have h1' : ¬ (n : Int) < 1 := by omega
  have h2' : ¬ (256 : Int) < n := by omega
  clear hm
  go_enter Tryz.func4, Tryz.ntmps4
  go_wp2_with fail
  refine HN.out.mono ?_
  rintro e w1 ⟨s, t, rfl, hs, hR, hm, t1, hf⟩
  have HT := hid t1
  clear hs hR hm t1 hf
  go_wp2_with fail
  refine (vmNew_none w1).mono ?_
  rintro e w2 ⟨rfl, rfl⟩
  go_wp2_with fail
  go_ret
  exact ⟨rfl, HT.out⟩
set_option maxHeartbeats 40000000 in
set_option maxRecDepth 100000 in
theorem vplays_few (n : Nat) (a : Option Addr) (xs : List Vs) (cap : Nat) (W : World) (hL : Laid W) (h1 : 1 ≤ n) (h2 : n ≤ 256) (hl : xs.length ≤ 60)
    (hc : xs ≠ [] → ∃ b off, a = some ⟨b, off, none⟩ ∧ VsAt W b off xs ∧ b < W.heap.size) :
    Calls Tryz.prog 4 #[.int .i64 n, .slice a xs.length cap] W fun e w' => e = .returned (.bool true) ∧ Turn (fun _ => False) W w' := by
  have HN := hid (vmNewStore_is n W h1 h2)
  have HC := hid hc
  have HL := hid hL
  have hm' : ¬ (60 : Int) < xs.length := by omega
  have h1' : ¬ (n : Int) < 1 := by omega
  have h2' : ¬ (256 : Int) < n := by omega
  have hmm := @run_makeMap Tryz.prog
  clear hc hL
  go_enter Tryz.func4, Tryz.ntmps4
  go_wp2_with fail
  refine HN.out.mono ?_
  rintro e w1 ⟨s, t, rfl, hs, hR, hm, t1, hf⟩
  have HS := hid hs
  have HR := hid hR
  have HT1 := hid t1
  have HF := hid hf
  clear hs hR hm t1 hf HN
  go_wp2_with fail
  refine (vmNew_none w1).mono ?_
  rintro e w2 ⟨rfl, rfl⟩
  go_wp2_with fail
  refine (bare_errno 7 w1 (HL.out.turned0 HT1.out)).mono ?_
  rintro e w2 ⟨rfl, t2⟩
  have HS2 := hid (HS.out.turned t2 (fun _ _ => id))
  have HT2 := hid (HT1.out.trans t2)
  have hz1 := HT1.out.size
  clear t2 HS HT1
  go_wp2_with fail
  refine (vmNew_is s.sb w2).mono ?_
  rintro e w3 ⟨sp, pm, rfl, hsp, t3, hsp1, hpm1⟩
  have HK : Hid (VKeep W w3 s n t [⟨sp, pm, fun _ => none⟩]) := hid ⟨VmAll.first (HS2.out.turned t3 (fun _ _ => id)) HR.out hsp ⟨fun h => by have := HS2.out.foot_lt _ h; omega, fun h => by have := HS2.out.foot_lt _ h; omega⟩, HT2.out.trans t3, fun k hk => by
    have hz := HT2.out.size
    rcases hk with hk | ⟨i, x, hx, hk⟩
    · exact HF.out k hk
    · cases i with
      | zero =>
        cases hx
        rcases hk with rfl | rfl
        · omega
        · omega
      | succ i => simp at hx⟩
  clear hsp t3 hsp1 hpm1 HS2 HT2 HF HR hz1
  go_wp2_with fail
  refine (rnewMem_is n (by omega) w3).mono ?_
  rintro e w4 ⟨rb, rm, rfl, hrb, hrm, hm4, t4⟩
  have HK4 := hid (HK.out.still t4)
  have HM4 := hid hm4
  have HLw : Hid (∀ A B, A = _ → B = _ → VLaw W (((w4.alloc A).alloc (.map #[] 0)).alloc B) s n rb rm t [⟨sp, pm, fun _ => none⟩] 0 [] [⟨w4.heap.size + 1, fun _ => none⟩] (.slice (some ⟨w4.heap.size, 0, none⟩) 1 1) (.slice (some ⟨w4.heap.size + 2, 0, none⟩) 1 1)) := hid (fun A B hA hB => VLaw.first HK4.out hm4 (Nat.le_trans HK.out.turn.size hrb) (Nat.le_trans HK.out.turn.size hrm) (fun k hk => by
    have := HK.out.all.foot_lt k hk
    exact ⟨by omega, by omega⟩) hA hB)
  clear hm4 t4 hrb hrm HK HM4
  go_wp2_with fail
  have HLw0 := hid (HLw.out _ _ rfl rfl)
  clear HLw HK4 hmm
  go_loopg [11, 12, 13] (xs.length) (fun gl v u i wr => ∃ (j : Nat) (t : St) (l : List Spc) (nx : Int) (rl : List (Int × Nat)) (L : List Qsp), j + gl = xs.length ∧ i = .int .i64 j ∧ Hid (VLaw W wr s n rb rm t l nx rl L v u) ∧ Hid (nx ≤ j) ∧ Hid (1 ≤ l.length ∧ l.length ≤ 5))
  case atStart => exact ⟨0, t, _, 0, [], _, by omega, rfl, HLw0, hid (by omega), hid ⟨by simp, by simp⟩⟩
  case round =>
    clear HLw0
    obtain ⟨j, t, l, nx, rl, L, hj, rfl, hV, hN, hS⟩ := hrel
    obtain ⟨g, gcap, g2, gcap2, rfl, rfl⟩ := hV.out.slices hS.out.1
    obtain ⟨LN, hLN⟩ : ∃ LN, l.length = LN := ⟨_, rfl⟩
    have hl1 := hS.out.1
    have hl5 := hS.out.2
    rw [hLN] at hl1 hl5 hV ⊢
    have HLN := hid hLN
    have hLL := hV.out.len
    have HLL : Hid (L.length = LN) := hid (by omega)
    clear hLN hLL
    by_cases hlt : j < xs.length
    · have hlt' : (j : Int) < xs.length := by omega
      obtain ⟨⟨x0, x1, x2, x3, x4, x5⟩, hx⟩ : ∃ x, xs[j]? = some x := ⟨_, List.getElem?_eq_getElem hlt⟩
      obtain ⟨b, off, rfl, hO, hb⟩ := HC.out (by rintro rfl; simp at hlt)
      obtain ⟨d0, d1, d2, d3, d4, d5⟩ := hO.turned hV.out.world.keep.turn hb id j _ hx
      simp only at d0 d1 d2 d3 d4 d5
      clear hO hx
      obtain ⟨pb, hpb⟩ : ∃ pb, pb = wr.heap.size := ⟨_, rfl⟩
      have T1 : Turn (fun _ => False) wr (wr.alloc (.cells #[.int .i64 x0, .int .i64 x1, .int .i64 x2, .int .i64 x3, .int .i64 x4, .int .i64 x5] 45)) := (Turn.refl _ _).alloc _
      have c0 : (wr.alloc (.cells #[.int .i64 x0, .int .i64 x1, .int .i64 x2, .int .i64 x3, .int .i64 x4, .int .i64 x5] 45)).cell? ⟨pb, 0, none⟩ = some (.int .i64 x0) := by rw [hpb]; simp
      have c1 : (wr.alloc (.cells #[.int .i64 x0, .int .i64 x1, .int .i64 x2, .int .i64 x3, .int .i64 x4, .int .i64 x5] 45)).cell? ⟨pb, 1, none⟩ = some (.int .i64 x1) := by rw [hpb]; simp
      have c2 : (wr.alloc (.cells #[.int .i64 x0, .int .i64 x1, .int .i64 x2, .int .i64 x3, .int .i64 x4, .int .i64 x5] 45)).cell? ⟨pb, 2, none⟩ = some (.int .i64 x2) := by rw [hpb]; simp
      have c3 : (wr.alloc (.cells #[.int .i64 x0, .int .i64 x1, .int .i64 x2, .int .i64 x3, .int .i64 x4, .int .i64 x5] 45)).cell? ⟨pb, 3, none⟩ = some (.int .i64 x3) := by rw [hpb]; simp
      have c4 : (wr.alloc (.cells #[.int .i64 x0, .int .i64 x1, .int .i64 x2, .int .i64 x3, .int .i64 x4, .int .i64 x5] 45)).cell? ⟨pb, 4, none⟩ = some (.int .i64 x4) := by rw [hpb]; simp
      have c5 : (wr.alloc (.cells #[.int .i64 x0, .int .i64 x1, .int .i64 x2, .int .i64 x3, .int .i64 x4, .int .i64 x5] 45)).cell? ⟨pb, 5, none⟩ = some (.int .i64 x5) := by rw [hpb]; simp
      have HV1 := hid (hV.out.still T1)
      have HPb : Hid (∀ k, AllFoot s t.vs l k ∨ QFoot rb rm L k → k ≠ pb) := hid (fun k hk => by
        rcases hk with hk | hk
        · have := hV.out.world.keep.all.foot_lt k hk; omega
        · have := hV.out.world.doc.foot_lt k hk; omega)
      clear hV T1
      go_upto_region 16 with fail
      rw [← hpb]
      generalize wr.alloc (.cells #[.int .i64 x0, .int .i64 x1, .int .i64 x2, .int .i64 x3, .int .i64 x4, .int .i64 x5] 45) = W2 at *
      clear d0 d1 d2 d3 d4 d5 hpb
      have hwl : IntKind.u64.wrap (LN : Int) = LN := IntWalk.u64_in _ (by omega)
      have hkk : ∃ kk : Nat, kk < LN ∧ wrap64 ((IntKind.u64.wrap x1).tmod LN) = kk := by
        have h3 : 0 ≤ IntKind.u64.wrap x1 := by
          have e : IntKind.u64.wrap x1 = x1 % 18446744073709551616 := rfl
          rw [e]; omega
        have h4 : (IntKind.u64.wrap x1).tmod LN = IntKind.u64.wrap x1 % LN := Int.tmod_eq_emod_of_nonneg h3
        have h5 := Int.emod_nonneg (IntKind.u64.wrap x1) (b := (LN : Int)) (by omega)
        have h6 := Int.emod_lt_of_pos (IntKind.u64.wrap x1) (b := (LN : Int)) (by omega)
        rw [h4]
        exact ⟨(IntKind.u64.wrap x1 % LN).toNat, by omega, by rw [IntWalk.wrap64_in _ (by omega)]; omega⟩
      have HKk := hid hkk
      clear hkk
      go_cut [15] (fun v wx => ∃ kk : Nat, kk < LN ∧ v = .int .i64 kk ∧ wx = W2)
      case first =>
        as_aux_lemma =>
          go_wp2_with fail
          go_meet
          obtain ⟨kk, h3, h4⟩ := HKk.out
          exact ⟨kk, h3, by rw [h4], rfl⟩
      case rest =>
        obtain ⟨kk, hkk, rfl, rfl⟩ := hcut
        obtain ⟨x, hx⟩ : ∃ x, l[kk]? = some x := ⟨_, List.getElem?_eq_getElem (by rw [HLN.out]; exact hkk)⟩
        obtain ⟨y, hy⟩ : ∃ y, L[kk]? = some y := ⟨_, List.getElem?_eq_getElem (by rw [HLL.out]; exact hkk)⟩
        obtain ⟨cg, cg2⟩ := HV1.out.cells hx hy
        have HX := hid hx
        have HY := hid hy
        clear hx hy hwl HKk c1
        have HV2 := hid (HV1.out.still ((Turn.refl (fun _ => False) wc).drew))
        go_upto_region 17 with fail
        go_quiet (fail)
        have T2 := (Turn.refl (fun _ => False) wc).drewN nq
        have hK2 := hid (HV1.out.still T2)
        replace c0 := (T2.cell (a := ⟨pb, 0, none⟩) (lt_of_cell c0) id).trans c0
        replace c2 := (T2.cell (a := ⟨pb, 2, none⟩) (lt_of_cell c2) id).trans c2
        replace c3 := (T2.cell (a := ⟨pb, 3, none⟩) (lt_of_cell c3) id).trans c3
        replace c4 := (T2.cell (a := ⟨pb, 4, none⟩) (lt_of_cell c4) id).trans c4
        replace c5 := (T2.cell (a := ⟨pb, 5, none⟩) (lt_of_cell c5) id).trans c5
        replace HV2 := hK2
        clear hK2 T2 HV1 cg cg2
        generalize wc.drewN nq = W3 at *
        go_upto_block 2 with fail
        go_cut [6, 20, 18, 19, 11, 12] (fun se sz sv su v u wx => ∃ (z c : Int) (len : Nat), se = VmErr z ∧ sz = .int .i64 z ∧ sv = .int .i64 c ∧ su = .int .i64 c ∧ 1 ≤ len ∧ len ≤ 5 ∧ Hid (VTo W s n rb rm v u nx len kk x.sp y.qm wx))
        case first =>
          --<<
          by_cases o0 : x0 = 0
          · subst o0
            as_aux_lemma =>
              have HVd := hid (HV2.out.still (Turn.refl (fun _ => False) W3).drew)
              have k2 := ((Turn.refl (fun _ => False) W3).drew.cell (a := ⟨pb, 2, none⟩) (lt_of_cell c2) id).trans c2
              have k3 := ((Turn.refl (fun _ => False) W3).drew.cell (a := ⟨pb, 3, none⟩) (lt_of_cell c3) id).trans c3
              have k4 := ((Turn.refl (fun _ => False) W3).drew.cell (a := ⟨pb, 4, none⟩) (lt_of_cell c4) id).trans c4
              go_wp2_with fail
              go_region_held3 (fun w' => w'.cell? ⟨pb, 2, none⟩ = some (.int .i64 x2) ∧ w'.cell? ⟨pb, 3, none⟩ = some (.int .i64 x3) ∧ w'.cell? ⟨pb, 4, none⟩ = some (.int .i64 x4))
                (first | exact ⟨k2, k3, k4⟩ | exact ⟨k26, k36, k46⟩ | exact ⟨k27, k37, k47⟩ | go_keep)
                (first | (go_at_call 12; refine (HVd.out.map HX.out HY.out x2 x3 x4).mono ?_; rintro e w6 ⟨z, rfl, t6, hd⟩; have HDc := hid hd; have k26 := (t6.cell (a := ⟨pb, 2, none⟩) (lt_of_cell k2) (fun e => HPb.out pb (.inl e) rfl)).trans k2; have k36 := (t6.cell (a := ⟨pb, 3, none⟩) (lt_of_cell k3) (fun e => HPb.out pb (.inl e) rfl)).trans k3; have k46 := (t6.cell (a := ⟨pb, 4, none⟩) (lt_of_cell k4) (fun e => HPb.out pb (.inl e) rfl)).trans k4; clear t6 hd) | (go_at_call 13; refine (HDc.out _ (Turn.refl _ _)).mono ?_; rintro e w7 ⟨rfl, hto, t7⟩; rw [HLN.out] at hto; have HTo := hid hto; have k27 := (t7.cell (a := ⟨pb, 2, none⟩) (lt_of_cell k26) (fun e => HPb.out pb (.inr e) rfl)).trans k26; have k37 := (t7.cell (a := ⟨pb, 3, none⟩) (lt_of_cell k36) (fun e => HPb.out pb (.inr e) rfl)).trans k36; have k47 := (t7.cell (a := ⟨pb, 4, none⟩) (lt_of_cell k46) (fun e => HPb.out pb (.inr e) rfl)).trans k46; clear hto t7))
              all_goals go_wp2_with fail
              all_goals go_meet
              all_goals exact ⟨z, 0, LN, rfl, rfl, rfl, rfl, by omega, by omega, HTo⟩
          have o0' : (x0 == 0) = false := beq_eq_false_iff_ne.2 o0
          by_cases o1 : x0 = 1
          · subst o1
            clear o0 o0'
            as_aux_lemma =>
              have HVd := hid (HV2.out.still (Turn.refl (fun _ => False) W3).drew)
              have k2 := ((Turn.refl (fun _ => False) W3).drew.cell (a := ⟨pb, 2, none⟩) (lt_of_cell c2) id).trans c2
              have k3 := ((Turn.refl (fun _ => False) W3).drew.cell (a := ⟨pb, 3, none⟩) (lt_of_cell c3) id).trans c3
              go_wp2_with fail
              go_region_held3 (fun w' => w'.cell? ⟨pb, 2, none⟩ = some (.int .i64 x2) ∧ w'.cell? ⟨pb, 3, none⟩ = some (.int .i64 x3))
                (first | exact ⟨k2, k3⟩ | exact ⟨k26, k36⟩ | exact ⟨k27, k37⟩ | go_keep)
                (first | (go_at_call 14; refine (HVd.out.unmap HX.out HY.out x2 x3).mono ?_; rintro e w6 ⟨z, rfl, t6, hd⟩; have HDc := hid hd; have k26 := (t6.cell (a := ⟨pb, 2, none⟩) (lt_of_cell k2) (fun e => HPb.out pb (.inl e) rfl)).trans k2; have k36 := (t6.cell (a := ⟨pb, 3, none⟩) (lt_of_cell k3) (fun e => HPb.out pb (.inl e) rfl)).trans k3; clear t6 hd) | (go_at_call 13; refine (HDc.out _ (Turn.refl _ _)).mono ?_; rintro e w7 ⟨rfl, hto, t7⟩; rw [HLN.out] at hto; have HTo := hid hto; have k27 := (t7.cell (a := ⟨pb, 2, none⟩) (lt_of_cell k26) (fun e => HPb.out pb (.inr e) rfl)).trans k26; have k37 := (t7.cell (a := ⟨pb, 3, none⟩) (lt_of_cell k36) (fun e => HPb.out pb (.inr e) rfl)).trans k36; clear hto t7))
              all_goals go_wp2_with fail
              all_goals go_meet
              all_goals exact ⟨z, 0, LN, rfl, rfl, rfl, rfl, by omega, by omega, HTo⟩
          have o1' : (x0 == 1) = false := beq_eq_false_iff_ne.2 o1
          by_cases o2 : x0 = 2
          · subst o2
            clear o0 o0' o1 o1'
            as_aux_lemma =>
              have HVd := hid (HV2.out.still (Turn.refl (fun _ => False) W3).drew)
              have k2 := ((Turn.refl (fun _ => False) W3).drew.cell (a := ⟨pb, 2, none⟩) (lt_of_cell c2) id).trans c2
              have k3 := ((Turn.refl (fun _ => False) W3).drew.cell (a := ⟨pb, 3, none⟩) (lt_of_cell c3) id).trans c3
              have k4 := ((Turn.refl (fun _ => False) W3).drew.cell (a := ⟨pb, 4, none⟩) (lt_of_cell c4) id).trans c4
              go_wp2_with fail
              go_region_held3 (fun w' => w'.cell? ⟨pb, 2, none⟩ = some (.int .i64 x2) ∧ w'.cell? ⟨pb, 3, none⟩ = some (.int .i64 x3) ∧ w'.cell? ⟨pb, 4, none⟩ = some (.int .i64 x4))
                (first | exact ⟨k2, k3, k4⟩ | exact ⟨k26, k36, k46⟩ | exact ⟨k27, k37, k47⟩ | go_keep)
                (first | (go_at_call 15; refine (HVd.out.prot HX.out HY.out x2 x3 x4).mono ?_; rintro e w6 ⟨z, rfl, t6, hd⟩; have HDc := hid hd; have k26 := (t6.cell (a := ⟨pb, 2, none⟩) (lt_of_cell k2) (fun e => HPb.out pb (.inl e) rfl)).trans k2; have k36 := (t6.cell (a := ⟨pb, 3, none⟩) (lt_of_cell k3) (fun e => HPb.out pb (.inl e) rfl)).trans k3; have k46 := (t6.cell (a := ⟨pb, 4, none⟩) (lt_of_cell k4) (fun e => HPb.out pb (.inl e) rfl)).trans k4; clear t6 hd) | (go_at_call 13; refine (HDc.out _ (Turn.refl _ _)).mono ?_; rintro e w7 ⟨rfl, hto, t7⟩; rw [HLN.out] at hto; have HTo := hid hto; have k27 := (t7.cell (a := ⟨pb, 2, none⟩) (lt_of_cell k26) (fun e => HPb.out pb (.inr e) rfl)).trans k26; have k37 := (t7.cell (a := ⟨pb, 3, none⟩) (lt_of_cell k36) (fun e => HPb.out pb (.inr e) rfl)).trans k36; have k47 := (t7.cell (a := ⟨pb, 4, none⟩) (lt_of_cell k46) (fun e => HPb.out pb (.inr e) rfl)).trans k46; clear hto t7))
              all_goals go_wp2_with fail
              all_goals go_meet
              all_goals exact ⟨z, 0, LN, rfl, rfl, rfl, rfl, by omega, by omega, HTo⟩
          have o2' : (x0 == 2) = false := beq_eq_false_iff_ne.2 o2
          by_cases o3 : x0 = 3
          · subst o3
            clear o0 o0' o1 o1' o2 o2'
            as_aux_lemma =>
              obtain ⟨c, z, hlb⟩ := HV2.out.load HX.out HY.out x2 x3
              have HLb := hid hlb
              clear hlb
              go_wp2_with fail
              refine (HLb.out _ (Turn.refl _ _)).1.mono ?_
              rintro e w6 ⟨rfl, t6⟩
              have HT6 := hid t6
              have k2 := (t6.cell (a := ⟨pb, 2, none⟩) (lt_of_cell c2) id).trans c2
              have k3 := (t6.cell (a := ⟨pb, 3, none⟩) (lt_of_cell c3) id).trans c3
              clear t6 c0 c2 c3 c4 c5
              go_wp2_with fail
              refine (HLb.out _ HT6.out).2.mono ?_
              rintro e w7 ⟨rfl, t7⟩
              have HTo := hid ((HV2.out.still (HT6.out.trans t7)).to HX.out HY.out)
              rw [HLN.out] at HTo
              clear t7
              go_wp2_with fail
              go_meet
              exact ⟨z, c, LN, rfl, rfl, rfl, rfl, by omega, by omega, HTo⟩
          have o3' : (x0 == 3) = false := beq_eq_false_iff_ne.2 o3
          by_cases o4 : x0 = 4
          · subst o4
            clear o0 o0' o1 o1' o2 o2' o3 o3'
            as_aux_lemma =>
              have HVd := hid (HV2.out.still (Turn.refl (fun _ => False) W3).drew)
              have k2 := ((Turn.refl (fun _ => False) W3).drew.cell (a := ⟨pb, 2, none⟩) (lt_of_cell c2) id).trans c2
              have k3 := ((Turn.refl (fun _ => False) W3).drew.cell (a := ⟨pb, 3, none⟩) (lt_of_cell c3) id).trans c3
              have k5 := ((Turn.refl (fun _ => False) W3).drew.cell (a := ⟨pb, 5, none⟩) (lt_of_cell c5) id).trans c5
              go_wp2_with fail
              go_region_held3 (fun w' => w'.cell? ⟨pb, 2, none⟩ = some (.int .i64 x2) ∧ w'.cell? ⟨pb, 3, none⟩ = some (.int .i64 x3) ∧ w'.cell? ⟨pb, 5, none⟩ = some (.int .i64 x5))
                (first | exact ⟨k2, k3, k5⟩ | exact ⟨k26, k36, k56⟩ | exact ⟨k27, k37, k57⟩ | go_keep)
                (first | (go_at_call 18; refine (HVd.out.store HX.out HY.out (by have := hN.out; omega) x2 x3 x5).mono ?_; rintro e w6 ⟨z, rfl, t6, hd⟩; have HDc := hid hd; have k26 := (t6.cell (a := ⟨pb, 2, none⟩) (lt_of_cell k2) (fun e => HPb.out pb (.inl e) rfl)).trans k2; have k36 := (t6.cell (a := ⟨pb, 3, none⟩) (lt_of_cell k3) (fun e => HPb.out pb (.inl e) rfl)).trans k3; have k56 := (t6.cell (a := ⟨pb, 5, none⟩) (lt_of_cell k5) (fun e => HPb.out pb (.inl e) rfl)).trans k5; clear t6 hd) | (go_at_call 19; refine (HDc.out _ (Turn.refl _ _)).mono ?_; rintro e w7 ⟨rfl, hto, t7⟩; rw [HLN.out] at hto; have HTo := hid hto; have k27 := (t7.cell (a := ⟨pb, 2, none⟩) (lt_of_cell k26) (fun e => HPb.out pb (.inr e) rfl)).trans k26; have k37 := (t7.cell (a := ⟨pb, 3, none⟩) (lt_of_cell k36) (fun e => HPb.out pb (.inr e) rfl)).trans k36; have k57 := (t7.cell (a := ⟨pb, 5, none⟩) (lt_of_cell k56) (fun e => HPb.out pb (.inr e) rfl)).trans k56; clear hto t7))
              all_goals go_wp2_with fail
              all_goals go_meet
              all_goals exact ⟨z, 0, LN, rfl, rfl, rfl, rfl, by omega, by omega, HTo⟩
          have o4' : (x0 == 4) = false := beq_eq_false_iff_ne.2 o4
          by_cases o5 : x0 = 5
          · subst o5
            clear o0 o0' o1 o1' o2 o2' o3 o3' o4 o4'
            as_aux_lemma =>
              by_cases hfk : LN < 5
              · have hfk' : (LN : Int) < 5 := by omega
                have HFk := hid (HV2.out.forkP HX.out (by rw [HLN.out]; omega))
                clear c0 c2 c3 c4 c5
                go_wp2_with fail
                refine HFk.out.mono ?_
                rintro e w6 ⟨sp2, pm2, t6, rfl, hm6, hW6⟩
                have HM6 := hid hm6
                have HW6 := hid hW6
                have hW6a := hW6.still ((Turn.refl (fun _ => False) w6).alloc (.cells #[.pointer (some ⟨sp2, 0, none⟩)] 35))
                have HRow : Hid (RowV (w6.alloc (.cells #[.pointer (some ⟨sp2, 0, none⟩)] 35)) 35 (.slice (some ⟨g, 0, none⟩) LN gcap) (l.map ptrOf)) := hid hW6a.pv
                have HW6a := hid hW6a
                have HCel : Hid ((w6.alloc (.cells #[.pointer (some ⟨sp2, 0, none⟩)] 35)).cell? ⟨w6.heap.size, 0, none⟩ = some (.pointer (some ⟨sp2, 0, none⟩))) := hid (by simp)
                have hll : (l.map ptrOf).length ≤ 1000000 := by rw [List.length_map, HLN.out]; omega
                have hlL : (L.map mapOf).length ≤ 1000000 := by rw [List.length_map, HLL.out]; omega
                clear hm6 hW6 hW6a HFk
                go_wp2_with (at_builtin; refine wpList_append_val rfl _ _ rfl Tryz.underlying40 infoSp rfl (by decide) (.slice (some ⟨g, 0, none⟩) LN gcap) (l.map ptrOf) rfl HRow.out w6.heap.size 1 (.pointer (some ⟨sp2, 0, none⟩)) rfl HCel.out rfl hll ?_; intro g3 z3 w7 hr7 t7 ho7; have HW7 := hid (HW6a.out.growP hr7 t7 ho7); clear hr7 t7 ho7)
                refine (HW7.out.forkQ HY.out (by rw [HLL.out]; omega)).mono ?_
                rintro e w8 ⟨tm, rl8, rfl, hW8⟩
                have hW8a := hW8.still ((Turn.refl (fun _ => False) w8).alloc (.cells #[.map (some tm)] 42))
                have HRow8 : Hid (RowV (w8.alloc (.cells #[.map (some tm)] 42)) 42 (.slice (some ⟨g2, 0, none⟩) LN gcap2) (L.map mapOf)) := hid hW8a.qv
                have HW8a := hid hW8a
                have HCel8 : Hid ((w8.alloc (.cells #[.map (some tm)] 42)).cell? ⟨w8.heap.size, 0, none⟩ = some (.map (some tm))) := hid (by simp)
                clear hW8 hW8a HW7 HW6a HRow HCel
                go_wp2_with (at_builtin; refine wpList_append_val rfl _ _ rfl Tryz.underlying43 infoRs rfl (by decide) (.slice (some ⟨g2, 0, none⟩) LN gcap2) (L.map mapOf) rfl HRow8.out w8.heap.size 1 (.map (some tm)) rfl HCel8.out rfl hlL ?_; intro g4 z4 w9 hr9 t9 ho9; have HW9 := hid (HW8a.out.growQ hr9 t9 ho9); clear hr9 t9 ho9)
                go_meet
                have hto := HV2.out.forked HX.out HY.out HM6.out HW9.out
                simp only [List.length_map] at hto
                rw [HLN.out] at hto
                rw [HLN.out]
                exact ⟨0, 0, LN + 1, rfl, rfl, rfl, rfl, by omega, by omega, hid hto⟩
              · have hfk' : ¬ (LN : Int) < 5 := by omega
                clear c0 c2 c3 c4 c5
                go_wp2_with fail
                go_meet
                have hto := HV2.out.to HX.out HY.out
                rw [HLN.out] at hto
                exact ⟨0, 0, LN, rfl, rfl, rfl, rfl, by omega, by omega, hid hto⟩
          have o5' : (x0 == 5) = false := beq_eq_false_iff_ne.2 o5
          by_cases o6 : x0 = 6
          · subst o6
            clear o0 o0' o1 o1' o2 o2' o3 o3' o4 o4' o5 o5'
            as_aux_lemma =>
              have HCl := hid (HV2.out.clear HX.out HY.out)
              clear c0 c2 c3 c4 c5
              go_wp2_with fail
              refine HCl.out.mono ?_
              rintro e w6 ⟨rfl, hd⟩
              have HDc := hid hd
              clear hd HCl
              go_wp2_with fail
              refine (HDc.out _ (Turn.refl _ _)).mono ?_
              rintro e w7 ⟨rfl, hto, t7⟩
              rw [HLN.out] at hto
              have HTo := hid hto
              clear hto t7
              go_wp2_with fail
              go_meet
              exact ⟨0, 0, LN, rfl, rfl, rfl, rfl, by omega, by omega, HTo⟩
          have o6' : (x0 == 6) = false := beq_eq_false_iff_ne.2 o6
          as_aux_lemma =>
            have hto := HV2.out.to HX.out HY.out
            rw [HLN.out] at hto
            have HTo := hid hto
            clear hto o0 o1 o2 o3 o4 o5 o6
            go_wp2_with fail
            go_meet
            exact ⟨0, 0, LN, rfl, rfl, rfl, rfl, by omega, by omega, HTo⟩
          -->>
        case rest =>
          obtain ⟨z, c, len, rfl, rfl, rfl, rfl, hl3, hl4, hTo⟩ := hcut
          obtain ⟨t3, l3, nx3, rl3, L3, x3, y3, hV3, hlen3, hx3, hsp3, hy3, hqm3, hnx3⟩ := hTo.out
          obtain ⟨A, hA⟩ : ∃ A, x.sp = A := ⟨_, rfl⟩
          obtain ⟨B, hB⟩ : ∃ B, y.qm = B := ⟨_, rfl⟩
          rw [hA] at hsp3 ⊢
          rw [hB] at hqm3 ⊢
          obtain ⟨n1, n2, n3⟩ := hV3.counts hx3 hy3
          obtain ⟨P1, hP1⟩ : ∃ P1, lenP x3.P = P1 := ⟨_, rfl⟩
          obtain ⟨P2, hP2⟩ : ∃ P2, resP x3.P = P2 := ⟨_, rfl⟩
          obtain ⟨P3, hP3⟩ : ∃ P3, usedN t3.R n = P3 := ⟨_, rfl⟩
          have hu := usedN_le t3.R n
          have HLen : Hid (∀ w', Turn (fun _ => False) wc w' → Calls Tryz.prog 24 #[.pointer (some ⟨A, 0, none⟩)] w' fun e w'' => e = .returned (.int .i64 P1) ∧ w' = w'') := hid (fun w' tt => by
            have h := vmLen_is ((hV3.still tt).world.keep.all.sps kk x3 hx3)
            rw [hsp3, hP1] at h
            exact h)
          have HRes : Hid (∀ w', Turn (fun _ => False) wc w' → Calls Tryz.prog 25 #[.pointer (some ⟨A, 0, none⟩)] w' fun e w'' => e = .returned (.int .i64 P2) ∧ Turn (fun _ => False) w' w'') := hid (fun w' tt => by
            have h := vmRes_is ((hV3.still tt).world.keep.all.sps kk x3 hx3)
            rw [hsp3, hP2] at h
            exact h)
          have HRs2 : Hid (∀ w', Turn (fun _ => False) wc w' → Calls Tryz.prog 26 #[.map (some B)] w' fun e w'' => e = .returned (.int .i64 P2) ∧ Turn (fun _ => False) w' w'') := hid (fun w' tt => by
            have h := rres_is ((hV3.still tt).world.doc.sps kk y3 hy3)
            rw [hqm3, ← n2, hP2] at h
            exact h)
          have HLf : Hid (∀ w', Turn (fun _ => False) wc w' → Calls Tryz.prog 27 #[.pointer (some ⟨s.sb, 0, none⟩)] w' fun e w'' => e = .returned (.int .i64 ((n : Int) - P3)) ∧ w' = w'') := hid (fun w' tt => by
            have h := vmLeft_is (hV3.still tt).world.keep.all.store
            rw [hP3] at h
            exact h)
          have HLf2 : Hid (∀ w', Turn (fun _ => False) wc w' → Calls Tryz.prog 28 #[.pointer (some ⟨rb, 0, none⟩)] w' fun e w'' => e = .returned (.int .i64 ((n : Int) - P3)) ∧ Turn (fun _ => False) w' w'') := hid (fun w' tt => by
            have h := rleft_is (hV3.still tt).world.doc.mem (by omega) (by omega)
            rw [n3, hP3] at h
            exact h)
          have HMl : Hid (∀ w', Turn (fun _ => False) wc w' → ∀ ty, (Builtin.len_ #[42] ty #[.map (some B)]).run Tryz.prog w' = .ok (.int .i64 P1) w') := hid (fun w' tt ty => by
            have h := (hV3.still tt).world.doc.sps kk y3 hy3
            obtain ⟨ql, hq, he⟩ := h.pages
            have h5 := rlen_pages hq.nodup h he
            have h6 := hq.run_len Tryz.underlying42 ty
            rw [hqm3, h5, ← n1, hP1] at h6
            exact h6)
          have HV3 := hid hV3
          have HL3 := hid hlen3
          have HBr := hid (fun w' (tt : Turn (fun _ => False) wc w') => bareV z w' (HL.out.turned0 (hV3.world.keep.turn.trans tt)))
          have hN3 : Hid (nx3 ≤ ((j + 1 : Nat) : Int)) := hid (by have := hN.out; omega)
          have e1 : ((P1 : Int) != P1) = false := by simp
          have e2 : ((P2 : Int) != P2) = false := by simp
          have e3 : ((n : Int) - P3 != (n : Int) - P3) = false := by simp
          have e4 : (c != c) = false := by simp
          clear hTo hV3 hlen3 hx3 hsp3 hy3 hqm3 hnx3 hA hB n1 n2 n3 hP1 hP2 hP3 HV2 HX HY HPb c0 c2 c3 c4 c5 hu
          go_wp2_with fail
          refine (HBr.out _ (Turn.refl _ _)).mono ?_
          rintro e w6 ⟨rfl, t6⟩
          have HT6 := hid t6
          have m6 := HMl.out w6 t6
          clear t6
          go_wp2_with fail
          refine (HLen.out _ HT6.out).mono ?_
          rintro e w7 ⟨rfl, rfl⟩
          go_wp2_with fail
          refine (HRes.out _ HT6.out).mono ?_
          rintro e w7 ⟨rfl, t7⟩
          have HT7 := hid (HT6.out.trans t7)
          clear t7 m6
          go_wp2_with fail
          refine (HRs2.out _ HT7.out).mono ?_
          rintro e w8 ⟨rfl, t8⟩
          have HT8 := hid (HT7.out.trans t8)
          clear t8
          go_wp2_with fail
          refine (HLf.out _ HT8.out).mono ?_
          rintro e w9 ⟨rfl, rfl⟩
          go_wp2_with fail
          refine (HLf2.out _ HT8.out).mono ?_
          rintro e w9 ⟨rfl, t9⟩
          have HT9 := hid (HT8.out.trans t9)
          clear t9
          go_wp2_with fail
          go_roundg (gk - 1)
          case measure => omega
          case rel => exact ⟨j + 1, t3, l3, nx3, rl3, L3, by omega, by go_num, hid (HV3.out.still HT9.out), hN3, hid (by rw [HL3.out]; exact ⟨hl3, hl4⟩)⟩
    · have hlt' : ¬ (j : Int) < xs.length := by omega
      clear hlt hN hS hj hl HC
      go_wp2_with fail
      go_loopg [22] LN (fun gl i wx => ∃ k : Nat, k + gl = LN ∧ i = .int .i64 k ∧ Hid (VLaw W wx s n rb rm t l nx rl L (.slice (some ⟨g, 0, none⟩) LN gcap) (.slice (some ⟨g2, 0, none⟩) LN gcap2)))
      case atStart => exact ⟨0, by omega, rfl, hV⟩
      case round =>
        clear hV
        obtain ⟨k, hk, rfl, hV⟩ := hrel
        by_cases hkl : k < LN
        · have hkl' : (k : Int) < LN := by omega
          obtain ⟨x, hx⟩ : ∃ x, l[k]? = some x := ⟨_, List.getElem?_eq_getElem (by rw [HLN.out]; exact hkl)⟩
          obtain ⟨y, hy⟩ : ∃ y, L[k]? = some y := ⟨_, List.getElem?_eq_getElem (by rw [HLL.out]; exact hkl)⟩
          have HX := hid hx
          have HY := hid hy
          clear hx hy
          go_wp2_with fail
          go_loopg [23] 64 (fun gl i wx => ∃ d : Nat, d + gl = 64 ∧ i = .int .i64 d ∧ Hid (VLaw W wx s n rb rm t l nx rl L (.slice (some ⟨g, 0, none⟩) LN gcap) (.slice (some ⟨g2, 0, none⟩) LN gcap2)))
          case atStart => exact ⟨0, by omega, rfl, hV⟩
          case round =>
            clear hV
            obtain ⟨d, hd, rfl, hV⟩ := hrel
            by_cases hdl : d < 64
            · have hdl' : (d : Int) < 64 := by omega
              go_wp2_with fail
              go_loopg [24] 8 (fun gl i wx => ∃ m : Nat, m + gl = 8 ∧ i = .int .i64 m ∧ Hid (VLaw W wx s n rb rm t l nx rl L (.slice (some ⟨g, 0, none⟩) LN gcap) (.slice (some ⟨g2, 0, none⟩) LN gcap2)))
              case atStart => exact ⟨0, by omega, rfl, hV⟩
              case round =>
                clear hV
                obtain ⟨m, hm, rfl, hV⟩ := hrel
                by_cases hml : m < 8
                · have hml' : (m : Int) < 8 := by omega
                  obtain ⟨cg, cg2⟩ := hV.out.cells HX.out HY.out
                  obtain ⟨c, z, hlb⟩ := hV.out.load HX.out HY.out d m
                  have HLb := hid hlb
                  have HCg := hid (fun w' (tt : Turn (fun _ => False) wr w') => (hV.out.still tt).cells HX.out HY.out)
                  have e4 : (c != c) = false := by simp
                  clear hlb
                  go_wp2_with fail
                  refine (HLb.out _ (Turn.refl _ _)).2.mono ?_
                  rintro e w6 ⟨rfl, t6⟩
                  have HT6 := hid t6
                  have cg6 := (HCg.out _ t6).1
                  clear t6 cg cg2
                  go_wp2_with fail
                  refine (HLb.out _ HT6.out).1.mono ?_
                  rintro e w7 ⟨rfl, t7⟩
                  have HT7 := hid (HT6.out.trans t7)
                  have HBr := hid (bareV z w7 (HL.out.turned0 (hV.out.world.keep.turn.trans HT7.out)))
                  clear t7 cg6
                  go_wp2_with fail
                  refine HBr.out.mono ?_
                  rintro e w8 ⟨rfl, t8⟩
                  have HT8 := hid (HT7.out.trans t8)
                  clear t8 HBr
                  go_wp2_with fail
                  go_roundg (gk - 1)
                  case measure => omega
                  case rel => exact ⟨m + 1, by omega, by go_num, hid (hV.out.still HT8.out)⟩
                · have hml' : ¬ (m : Int) < 8 := by omega
                  go_wp2_with fail
                  go_roundg (64 - (d + 1))
                  case measure => omega
                  case rel => exact ⟨d + 1, by omega, by go_num, hV⟩
            · have hdl' : ¬ (d : Int) < 64 := by omega
              go_wp2_with fail
              go_roundg (LN - (k + 1))
              case measure => omega
              case rel => exact ⟨k + 1, by omega, by go_num, hV⟩
        · have hkl' : ¬ (k : Int) < LN := by omega
          go_wp2_with fail
          go_ret
          exact ⟨rfl, hV.out.world.keep.turn⟩
end Go.Proofs.YtiohpmcedfbcgabGreatDoor
