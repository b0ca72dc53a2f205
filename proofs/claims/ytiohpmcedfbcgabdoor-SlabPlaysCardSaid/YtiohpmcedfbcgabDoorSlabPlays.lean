/- SlabPlays walked: true, and nothing that was there turns. Conditions: the variable errors.errorType holds what is laid; the argument lies in memory. -/
import Derived.Test.YtiohpmcedfbcgabDoorSlabLaw
import Derived.Deep.RegionWith
import Derived.Deep.RegionHeld3
import Derived.Deep.LoopGhost
import Derived.Deep.DeepCutAuto
import Derived.Deep.CutBlock
import Derived.Outline
namespace Go.Proofs.YtiohpmcedfbcgabDoor
open Go.RowKit
set_option linter.unusedVariables false

theorem framesOfL_nil : framesOfL [] = [] := by simp [framesOfL]
set_option maxRecDepth 100000 in
theorem splays_out (n per : Int) (v : Value) (w : World) (h : n < 1 ∨ 256 < n) : Calls Tryd.prog 7 #[.int .i64 n, .int .i64 per, v] w fun e w' => e = .returned (.bool true) ∧ Turn (fun _ => False) w w' := by
  have HN := hid (new_range n w h)
  clear h
  go_enter Tryd.func7, Tryd.ntmps7
  go_wp2_with fail
  refine HN.out.mono ?_
  rintro e w1 ⟨rfl, rfl⟩
  go_wp2_with fail
  go_ret
  exact ⟨rfl, Turn.refl _ _⟩

set_option maxRecDepth 100000 in
theorem splays_many (n per : Int) (a : Option Addr) (len cap : Nat) (w : World) (h1 : 1 ≤ n) (h2 : n ≤ 256) (hm : 60 < len) (hl : len ≤ 9223372036854775807) :
    Calls Tryd.prog 7 #[.int .i64 n, .int .i64 per, .slice a len cap] w fun e w' => e = .returned (.bool true) ∧ Turn (fun _ => False) w w' := by
  have HN := hid (new_any n w h1 h2)
  have hm' : (60 : Int) < len := by omega
  clear hm
  go_enter Tryd.func7, Tryd.ntmps7
  go_wp2_with fail
  refine HN.out.mono ?_
  rintro e w1 ⟨p, mb, vs, fr, rfl, hp, hg, t, hf⟩
  have HT := hid t
  clear t hp hg hf
  go_wp2_with fail
  go_ret
  exact ⟨rfl, HT.out⟩

set_option maxRecDepth 100000 in
theorem splays_range (n per : Int) (a : Option Addr) (len cap : Nat) (W : World) (hL : Laid W) (h1 : 1 ≤ n) (h2 : n ≤ 256) (hl : len ≤ 60) (hp : per < 1 ∨ 16 < per) :
    Calls Tryd.prog 7 #[.int .i64 n, .int .i64 per, .slice a len cap] W fun e w' => e = .returned (.bool true) ∧ Turn (fun _ => False) W w' := by
  have HN := hid (new_any n W h1 h2)
  have HL := hid hL
  have hm' : ¬ (60 : Int) < len := by omega
  have hp' : ¬ per < 1 → 16 < per := fun h1 => hp.resolve_left h1
  have HSn := hid (fun (p : Nat) (w : World) => slabNew_range (w := w) p per hp)
  clear hL hp
  by_cases h3 : per < 1
  · clear hp'
    go_enter Tryd.func7, Tryd.ntmps7
    go_wp2_with fail
    refine HN.out.mono ?_
    rintro e w1 ⟨p, mb, vs, fr, rfl, hp, hg, t, hf⟩
    have HT := hid t
    have HB1 := hid (bare_errno 7 w1 (HL.out.turned0 t))
    clear t hp hg hf
    go_wp2_with fail
    refine (slabNew_none (w := w1) per).mono ?_
    rintro e w2 ⟨rfl, rfl⟩
    go_wp2_with fail
    refine (HSn.out p w1).mono ?_
    rintro e w2 ⟨rfl, rfl⟩
    go_wp2_with fail
    refine HB1.out.mono ?_
    rintro e w2 ⟨rfl, t2⟩
    have HB2 := hid (bare_errno 2 w2 (HL.out.turned0 (HT.out.trans t2)))
    have HT2 := hid (HT.out.trans t2)
    clear t2
    go_wp2_with fail
    refine HB2.out.mono ?_
    rintro e w3 ⟨rfl, t3⟩
    have HT3 := hid (HT2.out.trans t3)
    clear t3
    go_wp2_with fail
    go_ret
    exact ⟨rfl, HT3.out⟩
  · have h4 := hp' h3
    clear hp'
    go_enter Tryd.func7, Tryd.ntmps7
    go_wp2_with fail
    refine HN.out.mono ?_
    rintro e w1 ⟨p, mb, vs, fr, rfl, hp, hg, t, hf⟩
    have HT := hid t
    have HB1 := hid (bare_errno 7 w1 (HL.out.turned0 t))
    clear t hp hg hf
    go_wp2_with fail
    refine (slabNew_none (w := w1) per).mono ?_
    rintro e w2 ⟨rfl, rfl⟩
    go_wp2_with fail
    refine (HSn.out p w1).mono ?_
    rintro e w2 ⟨rfl, rfl⟩
    go_wp2_with fail
    refine HB1.out.mono ?_
    rintro e w2 ⟨rfl, t2⟩
    have HB2 := hid (bare_errno 2 w2 (HL.out.turned0 (HT.out.trans t2)))
    have HT2 := hid (HT.out.trans t2)
    clear t2
    go_wp2_with fail
    refine HB2.out.mono ?_
    rintro e w3 ⟨rfl, t3⟩
    have HT3 := hid (HT2.out.trans t3)
    clear t3
    go_wp2_with fail
    go_ret
    exact ⟨rfl, HT3.out⟩

theorem mapLenT {w : World} {tm T : Nat} {β : Type} {val : β → Value} {m : List (Int × β)} (h : MapIs w tm (.int .i64) encI val m) (hT : m.length = T) (ty : TypeId) : (Builtin.len_ #[33] ty #[.map (some tm)]).run Tryd.prog w = .ok (.int .i64 T) w := by
  rw [← hT]
  exact h.run_len Tryd.underlying33 ty
set_option maxHeartbeats 40000000 in
set_option maxRecDepth 100000 in
theorem splays_few (n per : Nat) (a : Option Addr) (xs : List (Int × Int × Int × Int)) (cap : Nat) (W : World) (hL : Laid W) (h1 : 1 ≤ n) (h2 : n ≤ 256) (hp1 : 1 ≤ per) (hp2 : per ≤ 16) (hl : xs.length ≤ 60)
    (hc : xs ≠ [] → ∃ b off, a = some ⟨b, off, none⟩ ∧ OpsAt W b off xs ∧ b < W.heap.size) (hbd : ∀ x ∈ xs, x.2.1 < 9223372036854775808) :
    Calls Tryd.prog 7 #[.int .i64 n, .int .i64 per, .slice a xs.length cap] W fun e w' => e = .returned (.bool true) ∧ Turn (fun _ => False) W w' := by
  have HN := hid (new_any n W (by omega) (by omega))
  have HC := hid hc
  have HL := hid hL
  have HBd := hid hbd
  have hm' : ¬ (60 : Int) < xs.length := by omega
  have h3 : ¬ (per : Int) < 1 := by omega
  have h4 : ¬ (16 : Int) < per := by omega
  have hmm := @run_makeMap Tryd.prog
  clear hc hL hbd
  go_enter Tryd.func7, Tryd.ntmps7
  go_wp2_with fail
  refine HN.out.mono ?_
  rintro e w1 ⟨p, mb, vs, fr, rfl, hp, hg, t1, hf⟩
  have HP1 := hid hp
  have HG1 := hid hg
  have HT1 := hid t1
  have HF1 := hid hf
  clear hp hg t1 hf HN
  go_wp2_with fail
  refine (slabNew_none (w := w1) per).mono ?_
  rintro e w2 ⟨rfl, rfl⟩
  go_wp2_with fail
  refine (slabNew_is (w := w1) p per hp1 hp2).mono ?_
  rintro e w2 ⟨cb, sm, rfl, hsl, t2, hcb, hsm⟩
  have HSp : Hid (SPool w2 p mb vs ⟨(n : Int), fr, []⟩ cb sm per [] (fun _ _ => false)) := hid ⟨HP1.out.turned t2 (fun _ _ => id), HG1.out, by show (n : Int) ≤ 256; omega, hsl, fun t ht => (by cases ht), fun k hk hk2 => by
    have h5 := HP1.out.foot_below k hk2
    rcases hk with h6 | h6 | h6
    · omega
    · omega
    · simp at h6, hp1, hp2⟩
  have HT2 := hid (HT1.out.trans t2)
  have HNs : Hid (∀ k, Feet p mb vs cb sm [] k → W.heap.size ≤ k) := hid (fun k hk => by
    have h6 := HT1.out.size
    rcases hk with hk | hk | hk | hk
    · exact HF1.out k hk
    · omega
    · omega
    · simp at hk)
  clear hsl t2 hcb hsm
  go_wp2_with fail
  refine (bare_errno 7 w2 (HL.out.turned0 HT2.out)).mono ?_
  rintro e w3 ⟨rfl, t3⟩
  have HSp3 := hid (HSp.out.turned t3 (fun _ _ => id))
  have HT3 := hid (HT2.out.trans t3)
  clear t3 HSp HT2
  go_wp2_with fail
  refine (refNew_any n h1 h2 w3).mono ?_
  rintro e w4 ⟨rp, fb, rmb, rcp, rfl, hr, t4, hf4⟩
  have HR4 := hid hr
  have HT4 := hid t4
  have HF4 := hid hf4
  clear hr t4 hf4
  go_wp2_with fail
  obtain ⟨w5, hw5⟩ : ∃ w5, (w4.alloc (.map #[] 0)).alloc (.cells #[.pointer (some ⟨rp, 0, none⟩), .int .i64 per, .map (some w4.heap.size), .slice none 0 0] 92) = w5 := ⟨_, rfl⟩
  obtain ⟨tm, htm⟩ : ∃ tm, w4.heap.size = tm := ⟨_, rfl⟩
  have hz : (w4.alloc (.map #[] 0)).heap.size = tm + 1 := by rw [World.size_alloc, htm]
  rw [hw5, htm]
  have t5 : Turn (fun _ => False) w4 w5 := by rw [← hw5]; exact ((Turn.refl _ _).alloc _).alloc _
  have HCa : Hid (CacheAt w5 (tm + 1) tm rp per (.slice none 0 0) [] []) := hid (by
    rw [← hw5, ← hz]
    refine ⟨?_, ?_, ?_, ?_, fun i => ?_, ⟨by simp, .inl ⟨rfl, rfl⟩⟩, ?_, by omega, fun q hq => by cases hq⟩
    · exact World.cell?_alloc_new _ _ _ _
    · exact World.cell?_alloc_new _ _ _ _
    · rw [← htm]; exact World.cell?_alloc_new _ _ _ _
    · exact World.cell?_alloc_new _ _ _ _
    · simp
    · rw [← htm]; exact (MapIs.made w4).turned ((Turn.refl (fun _ => False) _).alloc _) id)
  have HSl : Hid (SLaw W w5 p mb cb sm per rp fb rmb rcp n (tm + 1) tm) := hid (by
    have h6 := HT3.out.size
    have h7 := HT4.out.size
    refine ⟨vs, fr, [], [], fun _ _ => false, fun _ => true, .slice none 0 0, [], ⟨HSp3.out.turned (HT4.out.trans t5) (fun _ _ => id), HR4.out.turned t5 (fun _ _ => id), (by rw [framesOfL_nil]; exact HCa.out), HT3.out.trans (HT4.out.trans t5), HNs.out, fun k hk => Nat.le_trans h6 (HF4.out k hk), fun k hk => ?_, fun k hk hk2 => ?_, fun k hk hk2 => ?_, fun k hk hk2 => ?_⟩, fun f _ => ⟨fun _ t ht => (by cases ht), fun _ => rfl⟩, fun k => ⟨fun h => by simp [mget] at h, fun h => by obtain ⟨_, b, hb, _⟩ := h; simp [mget] at hb⟩⟩
    · rcases hk with hk | hk | hk
      · omega
      · omega
      · cases hk
    · have h8 := HSp3.out.feet_lt k hk
      have h9 := HF4.out k hk2
      omega
    · have h8 := HSp3.out.feet_lt k hk
      rcases hk2 with hk2 | hk2 | hk2
      · omega
      · omega
      · cases hk2
    · have h8 := HR4.out.foot_lt k hk2
      rcases hk with hk | hk | hk
      · omega
      · omega
      · cases hk)
  clear t5 hz htm hw5 HCa HR4 HT4 HF4 HSp3 HT3 HNs HG1 HP1 HT1 HF1 hmm
  obtain ⟨dc, hdc⟩ : ∃ dc, tm + 1 = dc := ⟨_, rfl⟩
  rw [hdc] at HSl
  rw [hdc]
  clear hdc
  go_loopg [13] (xs.length) (fun gl i wr => ∃ j : Nat, j + gl = xs.length ∧ i = .int .i64 j ∧ Hid (SLaw W wr p mb cb sm per rp fb rmb rcp n dc tm))
  case atStart => exact ⟨0, by omega, rfl, HSl⟩
  case round =>
    clear HSl
    obtain ⟨j, hj, rfl, hSl⟩ := hrel
    by_cases hlt : j < xs.length
    · have hlt' : (j : Int) < xs.length := by omega
      obtain ⟨⟨x0, x1, x2, x3⟩, hx⟩ : ∃ x, xs[j]? = some x := ⟨_, List.getElem?_eq_getElem hlt⟩
      have hx1 : x1 < 9223372036854775808 := HBd.out _ (List.mem_of_getElem? hx)
      obtain ⟨b, off, rfl, hO, hb⟩ := HC.out (by rintro rfl; simp at hlt)
      obtain ⟨d0, d1, d2, d3⟩ := hO.turned hSl.out.since hb id j _ hx
      clear hO hx
      obtain ⟨vs, fr, tk, l, B, g, v, tl, hpr, hbi, hti⟩ := hSl.out
      obtain ⟨pb, hpb⟩ : ∃ pb, pb = wr.heap.size := ⟨_, rfl⟩
      have T1 : Turn (fun _ => False) wr (wr.alloc (.cells #[.int .i64 x0, .int .i64 x1, .int .i64 x2, .int .i64 x3] 50)) := (Turn.refl _ _).alloc _
      have c0 : (wr.alloc (.cells #[.int .i64 x0, .int .i64 x1, .int .i64 x2, .int .i64 x3] 50)).cell? ⟨pb, 0, none⟩ = some (.int .i64 x0) := by rw [hpb]; simp
      have c1 : (wr.alloc (.cells #[.int .i64 x0, .int .i64 x1, .int .i64 x2, .int .i64 x3] 50)).cell? ⟨pb, 1, none⟩ = some (.int .i64 x1) := by rw [hpb]; simp
      have c2 : (wr.alloc (.cells #[.int .i64 x0, .int .i64 x1, .int .i64 x2, .int .i64 x3] 50)).cell? ⟨pb, 2, none⟩ = some (.int .i64 x2) := by rw [hpb]; simp
      have HPr := hid (hpr.turned T1)
      have HBi := hid hbi
      have HTi := hid hti
      have HPb : Hid (∀ k, Feet p mb vs cb sm l k ∨ RefFoot rp fb rmb k ∨ CFoot dc tm v k → k ≠ pb) := hid (fun k hk => by
        rcases hk with hk | hk | hk
        · have := hpr.sp.feet_lt k hk; omega
        · have := hpr.ref.foot_lt k hk; omega
        · have := hpr.ca.foot_lt k hk; omega)
      clear hSl T1 hpr hbi hti
      go_upto_region 19 with fail
      rw [← hpb]
      generalize wr.alloc (.cells #[.int .i64 x0, .int .i64 x1, .int .i64 x2, .int .i64 x3] 50) = W2 at *
      clear d0 d1 d2 d3 hpb
      go_cut [92] (fun v wx => v = .int .u64 ((IntKind.u64.wrap x0).tmod 6) ∧ wx = W2)
      case first =>
        as_aux_lemma =>
          go_wp2_with fail
          go_meet
          exact ⟨rfl, rfl⟩
      case rest =>
        obtain ⟨rfl, rfl⟩ := hcut
        obtain ⟨op, hop⟩ : ∃ x, (IntKind.u64.wrap x0).tmod 6 = x := ⟨_, rfl⟩
        rw [hop]
        clear hop c0
        go_upto_block 2 with fail
        go_cut [15] (fun _ wx => Hid (SLaw W wx p mb cb sm per rp fb rmb rcp n dc tm))
        case first =>
          by_cases o012 : op = 0 ∨ op = 1 ∨ op = 2
          · as_aux_lemma =>
              have HDa := hid (docAlloc_any HPr.out HBi.out HTi.out)
              rcases o012 with rfl | rfl | rfl
              all_goals
                go_wp2_with fail
                refine HDa.out.mono ?_
                rintro e w6 hd
                obtain ⟨k, z, rfl, hsp, t6, hcons⟩ := both_alloc HPr.out HBi.out HTi.out hd
                have HSp6 := hid hsp
                have HCo := hid hcons
                clear hd hsp t6 hcons
                go_wp2_with fail
                refine (slabAlloc_any HSp6.out).mono ?_
                rintro e w7 hp
                obtain ⟨rfl, hl7⟩ := HCo.out _ _ hp
                have HLw := hid hl7
                have HBr := hid (bareB z w7 (HL.out.turned0 hl7.since))
                clear hp hl7
                go_wp2_with fail
                refine HBr.out.mono ?_
                rintro e w8 ⟨rfl, t8⟩
                have HT8 := hid t8
                clear t8
                go_wp2_with fail
                go_meet
                exact hid (HLw.out.turned HT8.out)
          · have o0' : (op == 0) = false := beq_eq_false_iff_ne.2 (fun e => o012 (.inl e))
            have o1' : (op == 1) = false := beq_eq_false_iff_ne.2 (fun e => o012 (.inr (.inl e)))
            have o2' : (op == 2) = false := beq_eq_false_iff_ne.2 (fun e => o012 (.inr (.inr e)))
            by_cases o3 : op = 3
            · subst o3
              clear o012 o0' o1' o2'
              as_aux_lemma =>
                have HPd := hid (HPr.out.turned (Turn.refl (fun _ => False) wc).drew)
                have k1 := ((Turn.refl (fun _ => False) wc).drew.cell (a := ⟨pb, 1, none⟩) (lt_of_cell c1) id).trans c1
                clear c2
                go_wp2_with fail
                go_region_held3 (fun w' => w'.cell? ⟨pb, 1, none⟩ = some (.int .i64 x1))
                  (first | exact k1 | exact k16 | exact k17 | exact k18 | go_keep)
                  (first | (go_at_call 58; refine (slabGiveS HPd.out.sp x1 hx1).mono ?_; rintro e w6 hp; obtain ⟨z, rfl, hca, t6, hcons⟩ := both_give HPd.out HBi.out HTi.out hp; have HCa6 := hid hca; have HCo := hid hcons; have k16 := (t6.cell (a := ⟨pb, 1, none⟩) (lt_of_cell k1) (fun e => HPb.out pb (.inl e) rfl)).trans k1; clear hp hca t6 hcons) | (go_at_call 59; refine (refSGive HCa6.out x1).mono ?_; rintro e w7 hd; obtain ⟨rfl, hl7, t7⟩ := HCo.out _ _ hd; have HLw := hid hl7; have HBr := hid (bareB z w7 (HL.out.turned0 hl7.since)); have k17 := (t7.cell (a := ⟨pb, 1, none⟩) (lt_of_cell k16) (fun e => HPb.out pb (.inr (.inr (.inr (.inl e)))) rfl)).trans k16; clear hd hl7 t7) | (go_at_call 22; refine HBr.out.mono ?_; rintro e w8 ⟨rfl, t8⟩; have HLw8 := hid (HLw.out.turned t8); have k18 := (t8.cell (a := ⟨pb, 1, none⟩) (lt_of_cell k17) id).trans k17; clear t8))
                all_goals go_wp2_with fail
                all_goals go_meet
                all_goals exact HLw8
            · have o3' : (op == 3) = false := beq_eq_false_iff_ne.2 o3
              by_cases o4 : op = 4
              · subst o4
                clear o012 o0' o1' o2' o3 o3'
                as_aux_lemma =>
                  go_wp2_with fail
                  refine (slabReap_any HPr.out.sp).mono ?_
                  rintro e w6 hp
                  obtain ⟨N, rfl, hca, hr, hcons⟩ := both_reap HPr.out HTi.out hp
                  have HDr := hid (docReap_any HPr.out HBi.out hca hr)
                  have HCo := hid hcons
                  clear hp hca hr hcons
                  go_wp2_with fail
                  refine HDr.out.mono ?_
                  rintro e w7 hd
                  obtain ⟨rfl, hl7⟩ := HCo.out _ _ hd
                  have HLw := hid hl7
                  clear hd hl7
                  go_wp2_with fail
                  go_meet
                  exact HLw
              · have o4' : (op == 4) = false := beq_eq_false_iff_ne.2 o4
                clear o012 o3 o4
                as_aux_lemma =>
                  have HPd := hid (HPr.out.turned (Turn.refl (fun _ => False) wc).drew)
                  have k2 := ((Turn.refl (fun _ => False) wc).drew.cell (a := ⟨pb, 2, none⟩) (lt_of_cell c2) id).trans c2
                  have e0 := HPd.out.ca.c0
                  have hpbr : pb ≠ fb ∧ pb ≠ rmb := ⟨fun e => HPb.out fb (.inr (.inl (.inr (.inl rfl)))) e.symm, fun e => HPb.out rmb (.inr (.inl (.inr (.inr rfl)))) e.symm⟩
                  have HPbr := hid hpbr
                  clear c1 hpbr
                  go_wp2_with fail
                  go_region_held3 (fun w' => w'.cell? ⟨pb, 2, none⟩ = some (.int .i64 x2) ∧ w'.cell? ⟨dc, 0, none⟩ = some (.pointer (some ⟨rp, 0, none⟩)))
                    (first | exact ⟨k2, e0⟩ | exact ⟨k26, e06⟩ | go_keep)
                    (first | (go_at_call 26; refine (docPool_any HPd.out.ref HPd.out.sp.good HBi.out h2 x2).mono ?_; rintro e w6 hd; obtain ⟨k, z, rfl, hsp, t6, hcons⟩ := both_pool HPd.out HBi.out HTi.out hd; have HSp6 := hid hsp; have HCo := hid hcons; have k26 := (t6.cell (a := ⟨pb, 2, none⟩) (lt_of_cell k2) (fun e => e.elim HPbr.out.1 HPbr.out.2)).trans k2; have e06 := (t6.cell (a := ⟨dc, 0, none⟩) (lt_of_cell e0) (fun e => HPd.out.apCR dc (.inl rfl) (e.elim (fun e => .inr (.inl e)) fun e => .inr (.inr e)))).trans e0; clear hd hsp t6 hcons))
                  all_goals
                    go_wp2_with fail
                    refine (progPool_any HSp6.out x2).mono ?_
                    rintro e w7 hp
                    obtain ⟨rfl, hl7, t7⟩ := HCo.out _ _ hp
                    have HLw := hid hl7
                    have HBr := hid (bareB z w7 (HL.out.turned0 hl7.since))
                    clear hp hl7 t7
                    go_wp2_with fail
                    refine HBr.out.mono ?_
                    rintro e w8 ⟨rfl, t8⟩
                    have HT8 := hid t8
                    clear t8
                    go_wp2_with fail
                    go_meet
                    exact hid (HLw.out.turned HT8.out)
        case rest =>
          obtain ⟨vs2, fr2, tk2, l2, B2, g2, v2, tl2, hpr, hbi, hti⟩ := hcut.out
          clear HPr HBi HTi HPb c1 c2 hcut
          have hpd := hpr.turned (Turn.refl (fun _ => False) wc).drew
          obtain ⟨a3, cap3, rfl⟩ := hpr.ca.fr.slice
          have hTl := things_len hti hpr.sp.p1 hpr.sp.slab.mp.nodup (nonneg_of hpr.sp) hpr.ca.mp.nodup
          have HTh := hid (slabThings_any hpd.sp)
          obtain ⟨T, hT⟩ : ∃ T, thingsOf l2 B2 per = T := ⟨_, rfl⟩
          rw [hT] at hTl HTh
          have hlf : ∀ k, k < 7 → (fr2 k).length ≤ 256 := fun k hk => hpr.sp.good.len (by simp only; omega) k hk
          have HLf := hid hlf
          have HCn := hid (cntFree_left hbi hpr.sp.good)
          obtain ⟨LV, hLV⟩ : ∃ LV, leftOf fr2 = LV := ⟨_, rfl⟩
          have HLf2 : Hid (∀ w, PoolAt w p mb vs2 ⟨(n : Int), fr2, tk2⟩ → Calls Tryd.prog 17 #[.pointer (some ⟨p, 0, none⟩)] w fun e w' => e = .returned (.int .i64 LV) ∧ w = w') := hid (fun w h => by
            rw [← hLV]
            exact left_is h (fun k hk => by have := HLf.out k hk; show (fr2 k).length ≤ 1000; omega))
          have HLr2 : Hid (∀ w, RefAt w rp fb rmb rcp n g2 tk2 → Calls Tryd.prog 29 #[.pointer (some ⟨rp, 0, none⟩)] w fun e w' => e = .returned (.int .i64 LV) ∧ w = w') := hid (fun w h => by
            rw [← hLV, ← HCn.out]
            exact refLeft_is h h2)
          have e0 := hpd.ca.c0
          have e2 := hpd.ca.c2
          have e3 := hpd.ca.c3
          rw [framesOfL_length] at e3
          have HPd := hid hpd
          have HBi2 := hid hbi
          have HTi2 := hid hti
          have HTl := hid hTl
          have m0 := mapLenT HPd.out.ca.mp HTl.out
          clear hpd hpr hbi hti hTl hT hLV hlf
          go_wp2_with fail
          go_region_held3 (fun w' => w'.cell? ⟨dc, 0, none⟩ = some (.pointer (some ⟨rp, 0, none⟩)) ∧ w'.cell? ⟨dc, 2, none⟩ = some (.map (some tm)) ∧ w'.cell? ⟨dc, 3, none⟩ = some (.slice a3 l2.length cap3) ∧ ∀ ty, (Builtin.len_ #[33] ty #[.map (some tm)]).run Tryd.prog w' = .ok (.int .i64 T) w')
            (first | exact ⟨e06, e26, e36, m6⟩ | exact ⟨e0, e2, e3, m0⟩ | go_keep)
            (first
              | (go_at_call 62; refine HTh.out.mono ?_; rintro e w6 ⟨rfl, t6⟩; have HP6 := hid (HPd.out.turned t6); have e06 := (t6.cell (a := ⟨dc, 0, none⟩) (lt_of_cell e0) id).trans e0; have e26 := (t6.cell (a := ⟨dc, 2, none⟩) (lt_of_cell e2) id).trans e2; have e36 := (t6.cell (a := ⟨dc, 3, none⟩) (lt_of_cell e3) id).trans e3; have m6 := mapLenT HP6.out.ca.mp HTl.out; clear t6)
              | (refine step_maplen rfl _ 33 3 3 rfl Tryd.underlying33 tm rfl HP6.out.ca.mp T HTl.out ?_)
              | (refine step_maplen rfl _ 33 3 3 rfl Tryd.underlying33 tm rfl HPd.out.ca.mp T HTl.out ?_)
              | (go_at_call 63; refine (frames_len HP6.out.sp.slab).mono ?_; rintro e w7 ⟨rfl, rfl⟩)
              | (go_at_call 17; refine (HLf2.out _ HP6.out.sp.pool).mono ?_; rintro e w7 ⟨rfl, rfl⟩)
              | (go_at_call 29; refine (HLr2.out _ HP6.out.ref).mono ?_; rintro e w7 ⟨rfl, rfl⟩))
          all_goals go_wp2_with fail
          all_goals go_roundg (gk - 1)
          all_goals first
            | omega
            | exact ⟨j + 1, by omega, by go_num, hid ⟨vs2, fr2, tk2, l2, B2, g2, _, tl2, HP6.out, HBi2.out, HTi2.out⟩⟩
    · have hlt' : ¬ (j : Int) < xs.length := by omega
      go_wp2_with fail
      go_ret
      exact ⟨rfl, hSl.out.since⟩
end Go.Proofs.YtiohpmcedfbcgabDoor
