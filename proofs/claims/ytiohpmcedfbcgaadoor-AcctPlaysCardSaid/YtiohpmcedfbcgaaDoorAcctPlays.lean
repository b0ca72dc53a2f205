/- AcctPlays walked: true, and nothing that was there turns. Conditions: the variables errors.errorType and almshouseref.Fine hold what is laid; the arguments lie in memory. -/
import Derived.Test.YtiohpmcedfbcgaaDoorAsks
import Derived.Deep.RegionWith
import Derived.Deep.RegionHeld3
import Derived.Deep.LoopGhost
import Derived.Deep.DeepCutAuto
import Derived.Deep.CutBlock
import Derived.Deep.QuietTactic
import Derived.BigQuiet
namespace Go.Proofs.YtiohpmcedfbcgaaDoor
open Go.RowKit
set_option linter.unusedVariables false

/-- Operations (which, two numbers, a word) lie from off on in block b. -/
def OpsAt (w : World) (b off : Nat) (xs : List (Int × Int × Int × Int)) : Prop :=
  ∀ j x, xs[j]? = some x → w.cell? ⟨b, off + j * 4, none⟩ = some (.int .i64 x.1) ∧ w.cell? ⟨b, off + j * 4 + 1, none⟩ = some (.int .i64 x.2.1) ∧ w.cell? ⟨b, off + j * 4 + 2, none⟩ = some (.int .i64 x.2.2.1) ∧ w.cell? ⟨b, off + j * 4 + 3, none⟩ = some (.int .i64 x.2.2.2)
theorem OpsAt.turned {w w' : World} {b off : Nat} {xs : List (Int × Int × Int × Int)} {S : Nat → Prop} (h : OpsAt w b off xs) (t : Turn S w w') (hb : b < w.heap.size) (hn : ¬ S b) : OpsAt w' b off xs := fun j x hx => by
  obtain ⟨a, c, d, e⟩ := h j x hx
  exact ⟨(t.cell (a := ⟨b, _, none⟩) hb hn).trans a, (t.cell (a := ⟨b, _, none⟩) hb hn).trans c, (t.cell (a := ⟨b, _, none⟩) hb hn).trans d, (t.cell (a := ⟨b, _, none⟩) hb hn).trans e⟩
theorem bareA (z : Int) (w : World) (hg : Laid w) : Calls Tryd.prog 23 #[errA z, .int .i64 z] w fun e w' => e = .returned (.bool true) ∧ Turn (fun _ => False) w w' := by
  by_cases hz : z = 0
  · subst hz
    exact bare_nil w
  · have e : errA z = .iface 34 (.int .i64 z) := by unfold errA; rw [if_neg hz]
    rw [e]
    exact bare_errno z w hg

set_option maxRecDepth 100000 in
theorem aplays_many (a : Option Addr) (n cap : Nat) (a2 : Option Addr) (n2 cap2 : Nat) (w : World) (h : 40 < n ∨ 20 < n2) (hm : n ≤ 9223372036854775807) (hm2 : n2 ≤ 9223372036854775807) :
    Calls Tryd.prog 6 #[.slice a n cap, .slice a2 n2 cap2] w fun e w' => e = .returned (.bool true) ∧ Turn (fun _ => False) w w' := by
  by_cases h1 : 40 < n
  · have h' : (40 : Int) < n := by omega
    clear h
    go_enter Tryd.func6, Tryd.ntmps6
    go_wp2_with fail
    all_goals go_ret
    all_goals exact ⟨rfl, Turn.refl _ _⟩
  · have h' : decide ((40 : Int) < n) = false := by rw [decide_eq_false_iff_not]; omega
    have h'' : (20 : Int) < n2 := by omega
    clear h
    go_enter Tryd.func6, Tryd.ntmps6
    go_wp2_with fail
    all_goals go_ret
    all_goals exact ⟨rfl, Turn.refl _ _⟩

theorem chg_fit {m : Nat → Int} : ∀ (xs : List (Int × Int)) (u v : Nat → Int) (i : Nat), Fit u m → chg m u xs i = .inr v → Fit v m
  | [], u, v, i, h, hc => by simp only [chg, Sum.inr.injEq] at hc; subst hc; exact h
  | x :: xs, u, v, i, h, hc => by
    simp only [chg] at hc
    split at hc
    · rename_i h0; exact chg_fit xs _ v _ (fit_done h h0) hc
    · cases hc
theorem u64_pos (a : Int) : 0 ≤ IntKind.u64.wrap a := by
  have e : IntKind.u64.wrap a = a % 18446744073709551616 := rfl
  rw [e]; omega
theorem ledger_zero (w : World) (t : TypeId) : LedgerIs (w.alloc (.cells #[.int .i64 0, .int .i64 0, .int .i64 0, .int .i64 0, .int .i64 0, .int .i64 0] t)) w.heap.size (fun _ => 0) (fun _ => 0) :=
  ⟨fun k hk => by
    match k, hk with
    | 0, _ => simp
    | 1, _ => simp
    | 2, _ => simp, fun k hk => by
    match k, hk with
    | 0, _ => simp
    | 1, _ => simp
    | 2, _ => simp, fun i => by simp⟩

set_option maxHeartbeats 40000000 in
set_option maxRecDepth 100000 in
theorem aplays_few (a : Option Addr) (xs : List (Int × Int × Int × Int)) (cap : Nat) (a2 : Option Addr) (rs : List (Int × Int)) (cap2 : Nat) (W : World) (hL : Laid W) (hF : FineIs W) (hl : xs.length ≤ 40) (hl2 : rs.length ≤ 20) (hcap2 : rs.length ≤ cap2) (hcm2 : cap2 ≤ 9223372036854775807)
    (hc : xs ≠ [] → ∃ b off, a = some ⟨b, off, none⟩ ∧ OpsAt W b off xs ∧ b < W.heap.size)
    (hc2 : LiesRow W a2 rs) :
    Calls Tryd.prog 6 #[.slice a xs.length cap, .slice a2 rs.length cap2] W fun e w' => e = .returned (.bool true) ∧ Turn (fun _ => False) W w' := by
  have HC := hid hc
  have HC2 := hid hc2
  have HL := hid hL
  have HF := hid hF
  have h1 : decide ((40 : Int) < xs.length) = false := by rw [decide_eq_false_iff_not]; omega
  have h2 : decide ((20 : Int) < rs.length) = false := by rw [decide_eq_false_iff_not]; omega
  clear hc hc2 hL hF
  go_enter Tryd.func6, Tryd.ntmps6
  go_wp2_with fail
  have HA0 := hid ((ledger_zero W 45).turned ((Turn.refl (fun _ => False) _).alloc (.cells #[.int .i64 0, .int .i64 0, .int .i64 0, .int .i64 0, .int .i64 0, .int .i64 0] 69)) id)
  have HB0 := hid (ledger_zero (W.alloc (.cells #[.int .i64 0, .int .i64 0, .int .i64 0, .int .i64 0, .int .i64 0, .int .i64 0] 45)) 69)
  have HT0 : Hid (Turn (fun _ => False) W ((W.alloc (.cells #[.int .i64 0, .int .i64 0, .int .i64 0, .int .i64 0, .int .i64 0, .int .i64 0] 45)).alloc (.cells #[.int .i64 0, .int .i64 0, .int .i64 0, .int .i64 0, .int .i64 0, .int .i64 0] 69))) := hid (((Turn.refl _ _).alloc _).alloc _)
  rw [World.size_alloc] at HB0
  generalize (W.alloc (.cells #[.int .i64 0, .int .i64 0, .int .i64 0, .int .i64 0, .int .i64 0, .int .i64 0] 45)).alloc (.cells #[.int .i64 0, .int .i64 0, .int .i64 0, .int .i64 0, .int .i64 0, .int .i64 0] 69) = W1 at *
  obtain ⟨pa, hpa⟩ : ∃ pa, W.heap.size = pa := ⟨_, rfl⟩
  rw [hpa] at HA0 HB0
  rw [hpa]
  have HPa := hid hpa
  have HFi : Hid (0 < pa) := hid (by have := lt_of_cell HF.out.1; rw [← hpa]; exact this)
  clear hpa
  have HFit0 : Hid (Fit (fun _ => 0) (fun _ => 0)) := hid (fun k _ => ⟨by simp, by simp, by simp, by simp⟩)
  go_loopg [7] (xs.length) (fun gl i wr => ∃ (j : Nat) (u m : Nat → Int), j + gl = xs.length ∧ i = .int .i64 j ∧ Hid (LedgerIs wr pa u m) ∧ Hid (LedgerIs wr (pa + 1) u m) ∧ Hid (Fit u m) ∧ Hid (Turn (fun _ => False) W wr))
  case atStart => exact ⟨0, _, _, by omega, rfl, HA0, HB0, HFit0, HT0⟩
  case round =>
    clear HA0 HB0 HFit0 HT0
    obtain ⟨j, u, m, hj, rfl, hA, hB, hFt, hT⟩ := hrel
    by_cases hlt : j < xs.length
    · have hlt' : (j : Int) < xs.length := by omega
      obtain ⟨⟨x0, x1, x2, x3⟩, hx⟩ : ∃ x, xs[j]? = some x := ⟨_, List.getElem?_eq_getElem hlt⟩
      obtain ⟨b, off, rfl, hO, hb⟩ := HC.out (by rintro rfl; simp at hlt)
      obtain ⟨d0, d1, d2, d3⟩ := hO.turned hT.out hb id j _ hx
      clear hO hx
      obtain ⟨pb, hpb⟩ : ∃ pb, pb = wr.heap.size := ⟨_, rfl⟩
      have T1 : Turn (fun _ => False) wr (wr.alloc (.cells #[.int .i64 x0, .int .i64 x1, .int .i64 x2, .int .i64 x3] 60)) := (Turn.refl _ _).alloc _
      have c0 : (wr.alloc (.cells #[.int .i64 x0, .int .i64 x1, .int .i64 x2, .int .i64 x3] 60)).cell? ⟨pb, 0, none⟩ = some (.int .i64 x0) := by rw [hpb]; simp
      have c1 : (wr.alloc (.cells #[.int .i64 x0, .int .i64 x1, .int .i64 x2, .int .i64 x3] 60)).cell? ⟨pb, 1, none⟩ = some (.int .i64 x1) := by rw [hpb]; simp
      have c2 : (wr.alloc (.cells #[.int .i64 x0, .int .i64 x1, .int .i64 x2, .int .i64 x3] 60)).cell? ⟨pb, 2, none⟩ = some (.int .i64 x2) := by rw [hpb]; simp
      have hpbp : pa + 1 < pb := by rw [hpb]; exact hB.out.lt
      have HA1 := hid (hA.out.turned T1 id)
      have HB1 := hid (hB.out.turned T1 id)
      have HT1 := hid (hT.out.trans T1)
      clear hA hB hT T1
      go_upto_region 9 with fail
      rw [← hpb]
      generalize wr.alloc (.cells #[.int .i64 x0, .int .i64 x1, .int .i64 x2, .int .i64 x3] 60) = W2 at *
      clear d0 d1 d2 d3 hpb
      have hpbl : pb < W2.heap.size := lt_of_cell c0
      obtain ⟨bw, hbw⟩ : ∃ y : Bool, ((IntKind.u64.wrap x0).tmod 3 == 0) = y := ⟨_, rfl⟩
      go_upto_if 35 with fail
      go_cut [9, 10, 11] (fun _ _ _ wx => ∃ (u m : Nat → Int), Hid (LedgerIs wx pa u m) ∧ Hid (LedgerIs wx (pa + 1) u m) ∧ Hid (Fit u m) ∧ Hid (Turn (fun _ => False) W wx))
      case first =>
        have HPw : Hid (W.heap.size ≤ pa) := hid (by have := HPa.out; omega)
        cases bw with
        | true =>
          as_aux_lemma =>
            clear hbw
            have Td : Turn (fun _ => False) W2 W2.drew := (Turn.refl _ _).drew
            have HAd := hid (HA1.out.turned Td id)
            have HBd := hid (HB1.out.turned Td id)
            have HTd := hid (HT1.out.trans Td)
            have k1 := (Td.cell (a := ⟨pb, 1, none⟩) (lt_of_cell c1) id).trans c1
            have k2 := (Td.cell (a := ⟨pb, 2, none⟩) (lt_of_cell c2) id).trans c2
            have HFl := hid (limR_fit hFt.out x1 x2)
            clear Td
            go_wp2_with fail
            go_region_held3 (fun w' => w'.cell? ⟨pb, 1, none⟩ = some (.int .i64 x1) ∧ w'.cell? ⟨pb, 2, none⟩ = some (.int .i64 x2))
              (first | exact ⟨k1, k2⟩ | exact ⟨k16, k26⟩ | exact ⟨k17, k27⟩ | exact ⟨k18, k28⟩ | go_keep)
              (first | (go_at_call 18; refine (limit_any HAd.out x1 x2).mono ?_; rintro e w6 ⟨rfl, ha6, t6⟩; have HA6 := hid ha6; have HB6 := hid (HBd.out.turned t6 (by omega)); have HT6 := hid (HTd.out.trans' t6 (fun k hk e => by have := HPw.out; omega)); have k16 := (t6.cell (a := ⟨pb, 1, none⟩) (lt_of_cell k1) (by simp only; omega)).trans k1; have k26 := (t6.cell (a := ⟨pb, 2, none⟩) (lt_of_cell k2) (by simp only; omega)).trans k2; clear ha6 t6) | (go_at_call 29; refine (refLimit_any HB6.out x1 x2).mono ?_; rintro e w7 ⟨rfl, hb7, t7⟩; have HB7 := hid hb7; have HA7 := hid (HA6.out.turned t7 (by omega)); have HT7 := hid (HT6.out.trans' t7 (fun k hk e => by have := HPw.out; omega)); have k17 := (t7.cell (a := ⟨pb, 1, none⟩) (lt_of_cell k16) (by simp only; omega)).trans k16; have k27 := (t7.cell (a := ⟨pb, 2, none⟩) (lt_of_cell k26) (by simp only; omega)).trans k26; clear hb7 t7) | (go_at_call 23; refine (bareA _ _ (HL.out.turned0 HT7.out)).mono ?_; rintro e w8 ⟨rfl, t8⟩; have HA8 := hid (HA7.out.turned t8 id); have HB8 := hid (HB7.out.turned t8 id); have HT8 := hid (HT7.out.trans t8); have k18 := (t8.cell (a := ⟨pb, 1, none⟩) (lt_of_cell k17) id).trans k17; have k28 := (t8.cell (a := ⟨pb, 2, none⟩) (lt_of_cell k27) id).trans k27; clear t8))
            all_goals go_wp2_with fail
            all_goals go_meet
            all_goals exact ⟨_, _, HA8, HB8, HFl, HT8⟩
        | false =>
          as_aux_lemma =>
            obtain ⟨k, hk4, hk⟩ : ∃ k : Nat, k < 5 ∧ wrap64 ((IntKind.u64.wrap ((IntKind.u64.wrap x0).tdiv 3)).tmod 5) = k := by
              have h1 := u64_pos ((IntKind.u64.wrap x0).tdiv 3)
              have h2 : 0 ≤ (IntKind.u64.wrap ((IntKind.u64.wrap x0).tdiv 3)).tmod 5 ∧ (IntKind.u64.wrap ((IntKind.u64.wrap x0).tdiv 3)).tmod 5 < 5 := by
                rw [Int.tmod_eq_emod_of_nonneg h1]
                omega
              refine ⟨((IntKind.u64.wrap ((IntKind.u64.wrap x0).tdiv 3)).tmod 5).toNat, by omega, ?_⟩
              rw [IntWalk.wrap64_in _ (by omega)]
              omega
            obtain ⟨kk, hkk⟩ : ∃ kk : Nat, kk = min rs.length k := ⟨_, rfl⟩
            go_upto_region 12 with fail
            go_cut [9] (fun v wx => v = .slice a2 kk cap2 ∧ W2 = wx)
            case first =>
              clear hbw HA1 HB1 HT1 HC hFt
              by_cases hle : rs.length ≤ k
              · obtain rfl : kk = rs.length := by omega
                have hle' : (rs.length : Int) ≤ k := by omega
                clear hkk hle
                go_wp2_with fail
                go_meet
                exact ⟨rfl, rfl⟩
              · obtain rfl : kk = k := by omega
                have hle' : ¬ (rs.length : Int) ≤ kk := by omega
                have hk1 : kk ≤ cap2 := by omega
                have hk2 : (kk : Int) ≤ cap2 := by omega
                have hk3 : kk ≤ rs.length := by omega
                clear hkk hle
                go_wp2_with fail
                go_meet
                exact ⟨rfl, rfl⟩
            case rest =>
              obtain ⟨rfl, rfl⟩ := hcut
              have hk5 : kk < 5 := by omega
              have hkl : kk ≤ rs.length := by omega
              clear hbw hk hk4 hkk
              have HLW : Hid (LiesRow W a2 (rs.take kk)) := hid (by
                rcases HC2.out with h | ⟨b', o', h1, h2, h3⟩
                · exact .inl (by rw [h]; simp)
                · exact .inr ⟨b', o', h1, h2, h3.take kk⟩)
              have HLs : Hid (LiesRow W2 a2 (rs.take kk)) := hid (by
                rcases HC2.out with h | ⟨b', o', h1, h2, h3⟩
                · exact .inl (by rw [h]; simp)
                · exact .inr ⟨b', o', h1, Nat.lt_of_lt_of_le h2 HT1.out.size, (h3.turned HT1.out h2 id).take kk⟩)
              have hlk : (rs.take kk).length = kk := by rw [List.length_take]; omega
              obtain ⟨ys, hys⟩ : ∃ ys, rs.take kk = ys := ⟨_, rfl⟩
              rw [hys] at HLs hlk HLW
              subst hlk
              clear hys
              go_wp2_with fail
              have hs2 : pa + 1 < W2.heap.size := HB1.out.lt
              go_loopw [10, 11] (fun v i wr => ∃ k : Nat, k ≤ ys.length ∧ i = .int .i64 k ∧ Hid (PairsAt 51 wr v (ys.take k)) ∧ Hid (∀ g, v.ownBlock = some g → W2.heap.size ≤ g) ∧ Hid (Turn (fun _ => False) W2 wr)) (fun _ i _ => ys.length - (intOf i).toNat)
              case atStart => exact ⟨0, Nat.zero_le _, rfl, hid (PairsAt.empty _ _), hid (fun g h => by cases h), hid (Turn.refl _ _)⟩
              case round =>
                obtain ⟨k, hk, rfl, hP, hO, hTk⟩ := hrel
                by_cases hlk : k < ys.length
                · have hlk' : (k : Int) < ys.length := by omega
                  obtain ⟨⟨y0, y1⟩, hy⟩ : ∃ y, ys[k]? = some y := ⟨_, List.getElem?_eq_getElem hlk⟩
                  obtain ⟨b', o', rfl, hb', hat⟩ := HLs.out.resolve_left (by rintro rfl; simp at hlk)
                  obtain ⟨e0, e1⟩ := (hat.turned hTk.out hb' id) k _ hy
                  simp only at e0 e1
                  have HY := hid hy
                  have hbr' : b' < wr.heap.size := Nat.lt_of_lt_of_le hb' hTk.out.size
                  have HO1 : Hid (PairsAt 51 (wr.alloc (.cells #[.int .i64 y0, .int .i64 y1] 51)) u10 (ys.take k)) := hid (hP.out.turned ((Turn.refl (fun _ => False) _).alloc _) (fun _ _ => id))
                  have HC1 : Hid (AsksAt (wr.alloc (.cells #[.int .i64 y0, .int .i64 y1] 51)) wr.heap.size 0 [(y0, y1)]) := hid (fun i t ht => by
                    cases i with
                    | zero => simp at ht; subst ht; exact ⟨by simp, by simp⟩
                    | succ i => simp at ht)
                  have htl : (ys.take k).length = k := by rw [List.length_take]; omega
                  have HTl := hid htl
                  clear hy hat htl
                  go_wp2_with (at_builtin; refine wpList_append_pairs pairA rfl _ _ rfl u10 _ rfl HO1.out wr.heap.size 0 1 (y0, y1) rfl HC1.out (by have := HTl.out; omega) ?_; intro g3 z3 w3 hi3 t3 ho3; have HI3 := hid hi3; have HT3 := hid t3; have HO3 := hid ho3; clear hi3 t3 ho3)
                  go_roundw
                  case rel =>
                    refine ⟨k + 1, by omega, by go_num, hid ?_, hid ?_, hid ?_⟩
                    · have h3 := HI3.out
                      rw [HTl.out] at h3
                      have e : ys.take (k + 1) = ys.take k ++ [(y0, y1)] := by rw [List.take_add_one, HY.out]; rfl
                      rw [e]
                      exact h3
                    · intro g' hg'
                      cases hg'
                      rcases HO3.out with h | h
                      · exact hO.out _ h
                      · have h1 := hTk.out.size
                        simp at h; simp only; omega
                    · exact (hTk.out.alloc _).trans' HT3.out (fun k hk e => absurd (hO.out k e) (by omega))
                  case measure => simp [intOf]; omega
                · obtain rfl : k = ys.length := by omega
                  have hP' := hP.out
                  rw [List.take_length] at hP'
                  have HO1 : Hid (PairsAt 51 (wr.alloc (.cells #[.int .i64 x1, .int .i64 x2] 51)) u10 ys) := hid (hP'.turned ((Turn.refl (fun _ => False) _).alloc _) (fun _ _ => id))
                  have HC1 : Hid (AsksAt (wr.alloc (.cells #[.int .i64 x1, .int .i64 x2] 51)) wr.heap.size 0 [(x1, x2)]) := hid (fun i t ht => by
                    cases i with
                    | zero => simp at ht; subst ht; exact ⟨by simp, by simp⟩
                    | succ i => simp at ht)
                  have e1 := (hTk.out.cell (a := ⟨pb, 1, none⟩) hpbl id).trans c1
                  have e2 := (hTk.out.cell (a := ⟨pb, 2, none⟩) hpbl id).trans c2
                  have hyl : ys.length ≤ 1000000 := by omega
                  clear hP hP'
                  go_wp2_with (at_builtin; refine wpList_append_pairs pairA rfl _ _ rfl u10 _ rfl HO1.out wr.heap.size 0 1 (x1, x2) rfl HC1.out hyl ?_; intro g3 z3 w3 hi3 t3 ho3; have HI3 := hid hi3; have HT3 := hid t3; have HO3 := hid ho3; clear hi3 t3 ho3)
                  have hg3 : W2.heap.size ≤ g3 := by
                    rcases HO3.out with h | h
                    · exact hO.out _ h
                    · have h1 := hTk.out.size
                      rw [World.size_alloc] at h; omega
                  have hTq := (hTk.out.alloc (.cells #[.int .i64 x1, .int .i64 x2] 51)).trans' HT3.out (fun k hk e => absurd (hO.out k e) (by omega))
                  have HTq := hid hTq
                  have HAq := hid (HA1.out.turned hTq id)
                  have HBq := hid (HB1.out.turned hTq id)
                  have HTW := hid (HT1.out.trans hTq)
                  have HLq := hid (HLs.out.turned hTq (fun _ _ => id))
                  have q1 := (hTq.cell (a := ⟨pb, 1, none⟩) hpbl id).trans c1
                  have q2 := (hTq.cell (a := ⟨pb, 2, none⟩) hpbl id).trans c2
                  have hpq : pb < w3.heap.size := lt_of_cell q1
                  clear hTq HO1 HC1 HT3 HO3 hO hTk HA1 HB1 HT1 HLs e1 e2
                  obtain ⟨ws, hws⟩ : ∃ ws, ys ++ [(x1, x2)] = ws := ⟨_, rfl⟩
                  have hwl : ws.length = ys.length + 1 := by rw [← hws]; simp
                  rw [hws] at HI3
                  have hw6 : ws.length ≤ 1000000 := by omega
                  obtain ⟨E, hE⟩ : ∃ E, chgE m u ws = E := ⟨_, rfl⟩
                  obtain ⟨P, hP⟩ : ∃ P, chgP m u ws = P := ⟨_, rfl⟩
                  obtain ⟨U, hU⟩ : ∃ U, chgU m u ws = U := ⟨_, rfl⟩
                  have hfU : Fit U m := by
                    rw [← hU]
                    unfold chgU
                    cases e : chg m u ws 0 with
                    | inl r => exact hFt.out
                    | inr v => exact chg_fit ws u v 0 hFt.out e
                  have HFU := hid hfU
                  have hch : ∀ w', Turn (fun _ => False) w3 w' → Calls Tryd.prog 21 #[.pointer (some ⟨pa, 0, none⟩), .slice (some ⟨g3, 0, none⟩) (ys.length + 1) z3] w' fun e w'' => ∃ v, e = .returned v ∧ ErrIs w3.heap.size w'' v E P ∧ LedgerIs w'' pa U m ∧ Turn (fun j => j = pa) w' w'' ∧ (∀ (a : Addr) v, w'.cell? a = some v → a.block ≠ pa → w''.cell? a = some v) ∧ Turn (fun j => j = pa) w3 w'' ∧ w3.heap.size ≤ w''.heap.size := by
                    intro w' tw
                    have h1 := charge_all (HAq.out.turned tw id) hFt.out (some ⟨g3, 0, none⟩) ws z3 hw6 (fun _ => by
                      rcases HI3.out.shape with ⟨h0, _⟩ | ⟨g', c', h0, _, _, hg', hat'⟩
                      · cases h0
                      · rw [hwl] at h0
                        cases h0
                        exact ⟨_, 0, rfl, hat'.turned tw hg' id, Nat.lt_of_lt_of_le hg' tw.size⟩)
                    rw [hwl, hE, hP, hU] at h1
                    refine h1.mono ?_
                    rintro e w'' ⟨v, rfl, h2, h3, _, h5⟩
                    have h6 := (tw.mono (S' := fun j => j = pa) fun _ _ h => h.elim).trans h5
                    exact ⟨v, rfl, h2.low tw.size, h3, h5, fun a v h hn => (h5.cell (lt_of_cell h) hn).trans h, h6, h6.size⟩
                  have hrf : ∀ w' g z, LedgerIs w' (pa + 1) u m → FineIs w' → PairsAt 71 w' (.slice (some ⟨g, 0, none⟩) (ys.length + 1) z) (ys ++ [(x1, x2)]) → Calls Tryd.prog 31 #[.pointer (some ⟨pa + 1, 0, none⟩), .slice (some ⟨g, 0, none⟩) (ys.length + 1) z] w' fun e w'' => e = .returned (.agg #[.int .i64 E, .int .i64 P]) ∧ LedgerIs w'' (pa + 1) U m ∧ Turn (fun j => j = pa + 1) w' w'' := by
                    intro w' g z hb hf hp
                    rw [hws] at hp
                    have h1 := refCharge_all hb hf (by have := HFi.out; omega) hFt.out (some ⟨g, 0, none⟩) ws z hw6 (fun _ => by
                      rcases hp.shape with ⟨h0, _⟩ | ⟨g', c', h0, _, _, hg', hat'⟩
                      · cases h0
                      · rw [hwl] at h0
                        cases h0
                        exact ⟨_, 0, rfl, hat', hg'⟩)
                    rw [hwl, hE, hP, hU] at h1
                    exact h1
                  have HCh := hid hch
                  have HRf := hid hrf
                  clear hch hrf hws hwl hE hP hU hfU hw6 HI3 HAq HLq
                  have hs0 : pa + 1 < w3.heap.size := HBq.out.lt
                  have q1d := ((Turn.refl (fun _ => False) w3).drew.cell (a := ⟨pb, 1, none⟩) (lt_of_cell q1) id).trans q1
                  have q2d := ((Turn.refl (fun _ => False) w3).drew.cell (a := ⟨pb, 2, none⟩) (lt_of_cell q2) id).trans q2
                  go_cut [94] (fun v wx => v = .bool false ∧ Hid (LedgerIs wx pa U m) ∧ Hid (LedgerIs wx (pa + 1) U m) ∧ Hid (Turn (fun _ => False) W wx))
                  case first =>
                    go_region_held3 (fun w' => w'.cell? ⟨pb, 1, none⟩ = some (.int .i64 x1) ∧ w'.cell? ⟨pb, 2, none⟩ = some (.int .i64 x2))
                      (first | exact ⟨q1d, q2d⟩ | exact ⟨k16, k26⟩ | exact ⟨k17, k27⟩ | exact ⟨k18, k28⟩ | exact ⟨k19, k29⟩ | exact ⟨k110, k210⟩ | go_keep)
                      (first | (go_at_call 21; refine (HCh.out _ ?_).mono ?_; (first | exact (Turn.refl _ _).drew | exact ((Turn.refl _ _).alloc _).drew | exact (((Turn.refl _ _).alloc _).alloc _).drew); rintro e w6 ⟨ve, rfl, hE6, hA6, t6, hC6, hT6, hs6⟩; have HE6 := hid hE6; have HA6 := hid hA6; have HC6 := hid hC6; have HT6 := hid (HTW.out.trans' hT6 (fun k hk e => by have := HPw.out; omega)); have HB6 := hid (HBq.out.turned hT6 (by omega)); have k16 := (hT6.cell (a := ⟨pb, 1, none⟩) (lt_of_cell q1) (by simp only; omega)).trans q1; have k26 := (hT6.cell (a := ⟨pb, 2, none⟩) (lt_of_cell q2) (by simp only; omega)).trans q2; clear hE6 hA6 hC6 t6 hT6) | (refine step_append_first pairR rfl _ _ rfl _ rfl a2 ys.length cap2 ys rfl rfl ?_ ?_ ?_; (refine LiesRow.turned HLW.out ?_ (fun _ _ => id); (first | exact HT6.out | exact HT6.out.alloc _ | exact (HT6.out.alloc _).alloc _)); exact hyl; intro v7 w7 hg7 t7; have hT67 : Turn (fun _ => False) w6 w7 := (by first | exact t7 | exact ((Turn.refl _ _).alloc _).trans t7 | exact (((Turn.refl _ _).alloc _).alloc _).trans t7); have HG7 := hid (hg7.low (B' := w6.heap.size) (by first | exact Nat.le_refl _ | (focus (simp; done)) | (simp; omega))); have HC7 := hid (fun (a : Addr) v (h : World.cell? _ a = some v) => (t7.cell (lt_of_cell h) id).trans h); have HC67 := hid (fun (a : Addr) v (h : w6.cell? a = some v) => (hT67.cell (lt_of_cell h) id).trans h); have HT67 := hid hT67; have k17 := (hT67.cell (a := ⟨pb, 1, none⟩) (lt_of_cell k16) id).trans k16; have k27 := (hT67.cell (a := ⟨pb, 2, none⟩) (lt_of_cell k26) id).trans k26; clear hg7 t7 hT67) | (refine step_append_more pairR rfl _ _ rfl v7 ys rfl w6.heap.size ?_ ?_ _ _ (x1, x2) rfl (AsksAt.one ?_ ?_) ?_ ?_; (first | exact HG7.out | exact HG7.out.turned ((Turn.refl (fun _ => False) _).alloc _) (fun _ _ => id)); (first | exact HT67.out.size | exact (HT67.out.alloc _).size); (first | (focus (simp; done)) | (refine HC7.out _ _ ?_; (first | (focus (simp; done)) | (focus (rw [World.cell?_alloc_lt _ _ _ (by simp)]; simp; done)))) | (refine HC67.out _ _ (HC6.out _ _ ?_ ?_); (first | (focus (simp; done)) | (focus (rw [World.cell?_drew, World.cell?_alloc_lt _ _ _ (by simp)]; simp; done))); (simp only; omega))); (first | (focus (simp; done)) | (refine HC7.out _ _ ?_; (first | (focus (simp; done)) | (focus (rw [World.cell?_alloc_lt _ _ _ (by simp)]; simp; done)))) | (refine HC67.out _ _ (HC6.out _ _ ?_ ?_); (first | (focus (simp; done)) | (focus (rw [World.cell?_drew, World.cell?_alloc_lt _ _ _ (by simp)]; simp; done))); (simp only; omega))); exact hyl; intro g8 z8 w8 hp8 t8 hg8; have hT68 : Turn (fun j => w6.heap.size ≤ j) w6 w8 := (by first | exact (HT67.out.mono fun _ _ h => h.elim).trans t8 | exact ((HT67.out.alloc _).mono fun _ _ h => h.elim).trans t8); have HP8 := hid hp8; have HE8 := hid (HE6.out.turned hT68 (fun k h1 h2 h3 => by omega)); have HB8 := hid (HB6.out.turned hT68 (by omega)); have HA8 := hid (HA6.out.turned hT68 (by omega)); have HT8 := hid (HT6.out.trans' hT68 (fun k hk e => by have := HT6.out.size; omega)); have k18 := (hT68.cell (a := ⟨pb, 1, none⟩) (lt_of_cell k16) (by simp only; omega)).trans k16; have k28 := (hT68.cell (a := ⟨pb, 2, none⟩) (lt_of_cell k26) (by simp only; omega)).trans k26; clear hp8 t8 hT68) | (go_at_call 31; refine (HRf.out _ _ _ HB8.out (HF.out.turned HT8.out id) HP8.out).mono ?_; rintro e w9 ⟨rfl, hb9, t9⟩; have HB9 := hid hb9; have HA9 := hid (HA8.out.turned t9 (by omega)); have HE9 := hid (HE8.out.turned t9 (fun k h1 h2 h3 => by omega)); have HT9 := hid (HT8.out.trans' t9 (fun k hk e => by have := HPw.out; omega)); have k19 := (t9.cell (a := ⟨pb, 1, none⟩) (lt_of_cell k18) (by simp only; omega)).trans k18; have k29 := (t9.cell (a := ⟨pb, 2, none⟩) (lt_of_cell k28) (by simp only; omega)).trans k28; clear hb9 t9) | (go_at_call 30; refine (is_all HE9.out (HL.out.turned0 HT9.out)).mono ?_; rintro e w10 ⟨rfl, t10⟩; have HA10 := hid (HA9.out.turned t10 id); have HB10 := hid (HB9.out.turned t10 id); have HT10 := hid (HT9.out.trans t10); have k110 := (t10.cell (a := ⟨pb, 1, none⟩) (lt_of_cell k19) id).trans k19; have k210 := (t10.cell (a := ⟨pb, 2, none⟩) (lt_of_cell k29) id).trans k29; clear t10))
                    all_goals go_wp2_with fail
                    all_goals go_meet
                    all_goals exact ⟨rfl, HA10, HB10, HT10⟩
                  case rest =>
                    obtain ⟨rfl, HAc, HBc, HTc⟩ := hcut
                    clear HCh HRf q1 q2 q1d q2d
                    go_wp2_with fail
                    go_meet
                    exact ⟨U, m, HAc, HBc, HFU, HTc⟩
      case rest =>
        obtain ⟨u2, m2, hA2, hB2, hF2, hT2⟩ := hcut
        clear HA1 HB1 HT1 hFt c0 c1 c2 hbw
        have HTc := hT2
        go_wp2_with fail
        go_loopw [12] (fun i wr => ∃ kk : Nat, kk ≤ 3 ∧ i = .int .i64 kk ∧ Hid (LedgerIs wr pa u2 m2) ∧ Hid (LedgerIs wr (pa + 1) u2 m2) ∧ Hid (Turn (fun _ => False) W wr)) (fun i _ => 3 - (intOf i).toNat)
        case atStart => exact ⟨0, by decide, rfl, hA2, hB2, hT2⟩
        case round =>
          clear hA2 hB2 hT2 HTc
          obtain ⟨kk, hk, rfl, hA, hB, hT⟩ := hrel
          by_cases hk3 : kk < 3
          · have hk3' : (kk : Int) < 3 := by omega
            have hk3'' : ¬ (kk : Int) < 0 := by omega
            have b0 := hB.out.cu kk hk3
            have b1 := hB.out.cm kk hk3
            have e0 : (u2 kk != u2 kk) = false := by simp
            have e1 : (m2 kk != m2 kk) = false := by simp
            have HQa := hid (fun n => (used_is (hA.out.turned ((Turn.refl (fun _ => False) wr).drewN n) id) kk hk3).mono fun _ _ ⟨he, hw⟩ => (⟨he, hw.symm⟩ : _ ∧ _ = wr.drewN n))
            have HQm := hid (fun n => (most_is (hA.out.turned ((Turn.refl (fun _ => False) wr).drewN n) id) kk hk3).mono fun _ _ ⟨he, hw⟩ => (⟨he, hw.symm⟩ : _ ∧ _ = wr.drewN n))
            go_wp2_with fail
            go_quiet ((first | (go_at_call 19; with_reducible exact Calls.quiet_of_same (HQa.out _)) | (go_at_call 20; with_reducible exact Calls.quiet_of_same (HQm.out _))))
            go_wp2_with fail
            have T0 := (Turn.refl (fun _ => False) wr).drewN nq
            go_roundw
            case rel => exact ⟨kk + 1, by omega, by go_num, hid (hA.out.turned T0 id), hid (hB.out.turned T0 id), hid (hT.out.trans T0)⟩
            case measure => simp [intOf]; omega
          · have hk3' : ¬ (kk : Int) < 3 := by omega
            go_wp2_with fail
            go_roundg (gk - 1)
            case measure => omega
            case rel => exact ⟨j + 1, u2, m2, by omega, by go_num, hA, hB, hF2, hT⟩
    · have hlt' : ¬ (j : Int) < xs.length := by omega
      have HU := hid (used_no (w := wr) pa (-1) (by omega))
      have HM := hid (most_no (w := wr) pa 3 (by omega))
      go_wp2_with fail
      refine HU.out.mono ?_
      rintro e w6 ⟨rfl, rfl⟩
      go_wp2_with fail
      refine HM.out.mono ?_
      rintro e w6 ⟨rfl, rfl⟩
      go_wp2_with fail
      go_ret
      exact ⟨rfl, hT.out⟩
end Go.Proofs.YtiohpmcedfbcgaaDoor
