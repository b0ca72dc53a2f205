/- VmApart walked: true, and nothing that was there turns. Conditions: the variables errors.errorType and internal/strconv.uint64pow10 hold what is laid; the arguments lie in memory. -/
import Derived.Test.YtiohpmcedfbcgacGreatDoorVmAll
import Derived.Test.YtiohpmcedfbcgacGreatDoorVmPaged
import Derived.Test.YtiohpmcedfbcgacGreatDoorVmClear
import Derived.Test.YtiohpmcedfbcgacGreatDoorVmWords
import Derived.Test.YtiohpmcedfbcgacGreatDoorPick
namespace Go.Proofs.YtiohpmcedfbcgacGreatDoor
open Go.RowKit Go.Lib
set_option linter.unusedVariables false

/-- Uses in memory: five numbers each. -/
abbrev Us := Int × Int × Int × Int × Int
def UsesAt (W : World) (b off : Nat) (xs : List Us) : Prop := ∀ (j : Nat) x, xs[j]? = some x →
  W.cell? ⟨b, off + j * 5, none⟩ = some (.int .i64 x.1) ∧ W.cell? ⟨b, off + j * 5 + 1, none⟩ = some (.int .i64 x.2.1) ∧ W.cell? ⟨b, off + j * 5 + 2, none⟩ = some (.int .i64 x.2.2.1) ∧ W.cell? ⟨b, off + j * 5 + 3, none⟩ = some (.int .i64 x.2.2.2.1) ∧ W.cell? ⟨b, off + j * 5 + 4, none⟩ = some (.int .i64 x.2.2.2.2) ∧ I64 x.2.2.2.2
theorem UsesAt.turned {W w : World} {b off : Nat} {xs : List Us} {S : Nat → Prop} (h : UsesAt W b off xs) (t : Turn S W w) (hb : b < W.heap.size) (hn : ¬ S b) : UsesAt w b off xs := fun j x hx => by
  obtain ⟨h0, h1, h2, h3, h4, h5⟩ := h j x hx
  exact ⟨(t.cell (a := ⟨b, _, none⟩) hb hn).trans h0, (t.cell (a := ⟨b, _, none⟩) hb hn).trans h1, (t.cell (a := ⟨b, _, none⟩) hb hn).trans h2, (t.cell (a := ⟨b, _, none⟩) hb hn).trans h3, (t.cell (a := ⟨b, _, none⟩) hb hn).trans h4, h5⟩
def WT (m : Nat → Nat → Int) (P : Int → Option Pg) : ByteArray := wordsT (loadV P m) (fun a k => accE P a k 1) (lenP P)
theorem WT_keep {m m' : Nat → Nat → Int} {P : Int → Option Pg} (h : ∀ i q, P i = some q → 0 ≤ q.2 → ∀ k, m' q.2.toNat k = m q.2.toNat k) : WT m' P = WT m P := by
  unfold WT
  refine wordsT_congr fun a _ j _ => ⟨?_, rfl⟩
  unfold loadV
  by_cases hz : accE P a j 1 = 0
  · rw [if_pos hz, if_pos hz]
    rcases accE_or P a j 1 with ⟨he, hn⟩ | he | he | ⟨he, h0, h8, q, hq, hq1⟩
    · omega
    · omega
    · omega
    · rw [hq]
      simp only [Option.getD_some]
      unfold wordV
      by_cases hf : q.2 < 0
      · rw [if_pos hf, if_pos hf]
      · rw [if_neg hf, if_neg hf]
        exact h _ q hq (by omega) _
  · rw [if_neg hz, if_neg hz]
section
variable {W w w' : World} {s : SB} {n : Nat} {t t' : St} {l : List Spc} {k : Nat} {x y : Spc} {v : Int}
theorem VKeep.words (h : VKeep W w s n t l) (hk : l[k]? = some x) (hm : ∀ f k, I64 (t.m f k)) (hT : Tab W) (hL : Laid W) :
    Calls Tryz.prog 20 #[.pointer (some ⟨x.sp, 0, none⟩)] w fun e w' => e = .returned (.string (WT t.m x.P)) ∧ Turn (fun _ => False) w w' :=
  words_is h.all.store (h.all.sps k x hk) (fun i q hq h0 => by
    have hd := (h.all.sps k x hk).dom i q hq
    have h1 := cntF_ge (P := x.P) (i := i) (f := q.2) hd.1 hd.2
    rw [hq, hasF_some, if_pos rfl] at h1
    have h2 := h.all.refs q.2 h0
    have h3 := sumC_pos hk q.2
    omega) hm (hT.turned h.turn) (hL.turned0 h.turn)
/-- One of two is used: the other one's words stay. -/
def UsedTwo (W : World) (s : SB) (n : Nat) (m : Nat → Nat → Int) (x y : Spc) (e : Ending) (w' : World) : Prop :=
  ∃ (z : Int) (P' : Int → Option Pg) (t' : St), e = .returned (VmErr z) ∧ (∀ f k, I64 (t'.m f k)) ∧ WT t'.m y.P = WT m y.P ∧
    (VKeep W w' s n t' [⟨x.sp, x.pm, P'⟩, y] ∧ True)
theorem held_other (h : VmAll w s n t [x, y]) (i : Int) (q : Pg) (hq : y.P i = some q) (h0 : 0 ≤ q.2) : 0 < sumC ([x, y].eraseIdx 0) q.2 := by
  have hd := (h.sps 1 y rfl).dom i q hq
  have h1 := cntF_ge (P := y.P) (i := i) (f := q.2) hd.1 hd.2
  rw [hq, hasF_some, if_pos rfl] at h1
  show 0 < cntF y.P q.2 + 0
  omega
theorem held_first (h : VmAll w s n t [x, y]) (i : Int) (q : Pg) (hq : x.P i = some q) (h0 : 0 ≤ q.2) : 0 < sumC ([x, y].eraseIdx 1) q.2 := by
  have hd := (h.sps 0 x rfl).dom i q hq
  have h1 := cntF_ge (P := x.P) (i := i) (f := q.2) hd.1 hd.2
  rw [hq, hasF_some, if_pos rfl] at h1
  show 0 < cntF x.P q.2 + 0
  omega
theorem use_first (h : VKeep W w s n t [x, y]) (hm : ∀ f k, I64 (t.m f k)) (x0 x1 x2 x3 x4 : Int) (hv : I64 x4) :
    Calls Tryz.prog 18 #[.pointer (some ⟨x.sp, 0, none⟩), .agg #[.int .i64 x0, .int .i64 x1, .int .i64 x2, .int .i64 x3, .int .i64 x4]] w fun e w' =>
      ∃ (z : Int) (P' : Int → Option Pg) (t' : St), e = .returned (VmErr z) ∧ (∀ f k, I64 (t'.m f k)) ∧ WT t'.m y.P = WT t.m y.P ∧ VKeep W w' s n t' [⟨x.sp, x.pm, P'⟩, y] := by
  refine (keepUse_is (h.all.at (k := 0) rfl) x0 x1 x2 x3 x4).mono ?_
  rintro e w' ⟨z, P', t', rfl, _, _, hA, _, _, hO, hB⟩
  exact ⟨z, P', t', rfl, hB I64 ⟨by omega, by omega⟩ hv hm, WT_keep (fun i q hq h0 k => hO q.2 h0 (held_other h.all i q hq h0) k), h.next (h.all.after (k := 0) rfl hA)⟩
theorem use_second (h : VKeep W w s n t [x, y]) (hm : ∀ f k, I64 (t.m f k)) (x0 x1 x2 x3 x4 : Int) (hv : I64 x4) :
    Calls Tryz.prog 18 #[.pointer (some ⟨y.sp, 0, none⟩), .agg #[.int .i64 x0, .int .i64 x1, .int .i64 x2, .int .i64 x3, .int .i64 x4]] w fun e w' =>
      ∃ (z : Int) (P' : Int → Option Pg) (t' : St), e = .returned (VmErr z) ∧ (∀ f k, I64 (t'.m f k)) ∧ WT t'.m x.P = WT t.m x.P ∧ VKeep W w' s n t' [x, ⟨y.sp, y.pm, P'⟩] := by
  refine (keepUse_is (h.all.at (k := 1) rfl) x0 x1 x2 x3 x4).mono ?_
  rintro e w' ⟨z, P', t', rfl, _, _, hA, _, _, hO, hB⟩
  exact ⟨z, P', t', rfl, hB I64 ⟨by omega, by omega⟩ hv hm, WT_keep (fun i q hq h0 k => hO q.2 h0 (held_first h.all i q hq h0) k), h.next (h.all.after (k := 1) rfl hA)⟩
theorem use_alone (h : VKeep W w s n t [x]) (hm : ∀ f k, I64 (t.m f k)) (x0 x1 x2 x3 x4 : Int) (hv : I64 x4) :
    Calls Tryz.prog 18 #[.pointer (some ⟨x.sp, 0, none⟩), .agg #[.int .i64 x0, .int .i64 x1, .int .i64 x2, .int .i64 x3, .int .i64 x4]] w fun e w' =>
      ∃ (z : Int) (P' : Int → Option Pg) (t' : St), e = .returned (VmErr z) ∧ (∀ f k, I64 (t'.m f k)) ∧ VKeep W w' s n t' [⟨x.sp, x.pm, P'⟩] := by
  refine (keepUse_is (h.all.at (k := 0) rfl) x0 x1 x2 x3 x4).mono ?_
  rintro e w' ⟨z, P', t', rfl, _, _, hA, _, _, hO, hB⟩
  exact ⟨z, P', t', rfl, hB I64 ⟨by omega, by omega⟩ hv hm, h.next (h.all.after (k := 0) rfl hA)⟩
end
def Many3 (n1 n2 n3 : Nat) : Prop := 25 < n1 ∨ 25 < n2 ∨ 25 < n3
set_option maxHeartbeats 1000000 in
set_option maxRecDepth 100000 in
theorem vmApart_many (z : Int) (a1 a2 a3 : Option Addr) (n1 n2 n3 c1 c2 c3 : Nat) (W : World) (hn1 : n1 ≤ maxLen) (hn2 : n2 ≤ maxLen) (hn3 : n3 ≤ maxLen) (hb : Many3 n1 n2 n3) :
    Calls Tryz.prog 3 #[.int .i64 z, .slice a1 n1 c1, .slice a2 n2 c2, .slice a3 n3 c3] W fun e w' => e = .returned (.bool true) ∧ Turn (fun _ => False) W w' := by
  have hm : maxLen = 9223372036854775807 := rfl
  unfold Many3 at hb
  by_cases h1 : 25 < n1
  · have h1' : (25 : Int) < n1 := by omega
    clear hb h1
    go_enter Tryz.func3, Tryz.ntmps3
    go_wp2_with fail
    go_ret
    exact ⟨rfl, Turn.refl _ _⟩
  · by_cases h2 : 25 < n2
    · have h1' : ¬ (25 : Int) < n1 := by omega
      have h2' : (25 : Int) < n2 := by omega
      clear hb h1 h2
      go_enter Tryz.func3, Tryz.ntmps3
      go_wp2_with fail
      go_ret
      exact ⟨rfl, Turn.refl _ _⟩
    · have h1' : ¬ (25 : Int) < n1 := by omega
      have h2' : ¬ (25 : Int) < n2 := by omega
      have h3' : (25 : Int) < n3 := by omega
      clear hb h1 h2
      go_enter Tryz.func3, Tryz.ntmps3
      go_wp2_with fail
      go_ret
      exact ⟨rfl, Turn.refl _ _⟩
set_option maxHeartbeats 8000000 in
set_option maxRecDepth 100000 in
theorem vmApart_few (z : Int) (a1 a2 a3 : Option Addr) (xs1 xs2 xs3 : List Us) (c1 c2 c3 : Nat) (W : World) (hL : Laid W) (hT : Tab W) (hl1 : xs1.length ≤ 25) (hl2 : xs2.length ≤ 25) (hl3 : xs3.length ≤ 25)
    (hc1 : xs1 ≠ [] → ∃ b off, a1 = some ⟨b, off, none⟩ ∧ UsesAt W b off xs1 ∧ b < W.heap.size) (hc2 : xs2 ≠ [] → ∃ b off, a2 = some ⟨b, off, none⟩ ∧ UsesAt W b off xs2 ∧ b < W.heap.size) (hc3 : xs3 ≠ [] → ∃ b off, a3 = some ⟨b, off, none⟩ ∧ UsesAt W b off xs3 ∧ b < W.heap.size) :
    Calls Tryz.prog 3 #[.int .i64 z, .slice a1 xs1.length c1, .slice a2 xs2.length c2, .slice a3 xs3.length c3] W fun e w' => e = .returned (.bool true) ∧ Turn (fun _ => False) W w' := by
  have h1 : ¬ (25 : Int) < xs1.length := by omega
  have h2 : ¬ (25 : Int) < xs2.length := by omega
  have h3 : ¬ (25 : Int) < xs3.length := by omega
  have HC1 := hid hc1
  have HC2 := hid hc2
  have HC3 := hid hc3
  have HL := hid hL
  have HTb := hid hT
  clear hc1 hc2 hc3 hL hT
  go_enter Tryz.func3, Tryz.ntmps3
  go_wp2_with fail
  refine (paged_is W).mono ?_
  rintro e w0 ⟨rfl, t0⟩
  have HT0 := hid t0
  clear t0
  go_wp2_with fail
  refine (pick_some z 60 w0 (by omega) (by omega)).mono ?_
  rintro e w1 ⟨k0, hk0, hk1, rfl, rfl⟩
  obtain ⟨N, rfl⟩ : ∃ N : Nat, k0 = N := ⟨k0.toNat, by omega⟩
  obtain ⟨M, hM⟩ : ∃ M, N + 1 = M := ⟨_, rfl⟩
  have hwN : IntKind.i64.wrap (1 + (N : Int)) = M := by rw [IntWalk.i64_in _ (by omega)]; omega
  have hM1 : 1 ≤ M := by omega
  have hM2 : M ≤ 60 := by omega
  have HS := hid (vmNewStore_is M w0 hM1 (by omega))
  have eM : (N : Int) + 1 = M := by omega
  clear hk0 hk1
  go_wp2_with fail
  clear eM hM hwN
  refine HS.out.mono ?_
  rintro e w2 ⟨s, t, rfl, hs, hR, hm, t2, hf⟩
  have HS2 := hid hs
  have HR := hid hR
  have HM0 : Hid (∀ f k, I64 (t.m f k)) := hid (fun f k => by rw [hm]; exact ⟨by omega, by omega⟩)
  have HT2 := hid (HT0.out.trans t2)
  have HF := hid hf
  have hz0 := HT0.out.size
  clear hs hR hm t2 hf HS HT0
  go_wp2_with fail
  refine (vmNew_is s.sb w2).mono ?_
  rintro e w3 ⟨sp, pm, rfl, hsp, t3, hsp1, hpm1⟩
  have HK : Hid (VKeep W w3 s M t [⟨sp, pm, fun _ => none⟩]) := hid ⟨VmAll.first (HS2.out.turned t3 (fun _ _ => id)) HR.out hsp ⟨fun h => by have := HS2.out.foot_lt _ h; omega, fun h => by have := HS2.out.foot_lt _ h; omega⟩, HT2.out.trans t3, fun k hk => by
    have hz := HT2.out.size
    rcases hk with hk | ⟨i, x, hx, hk⟩
    · exact Nat.le_trans hz0 (HF.out k hk)
    · cases i with
      | zero =>
        cases hx
        rcases hk with rfl | rfl
        · omega
        · omega
      | succ i => simp at hx⟩
  clear hsp t3 hsp1 hpm1 HS2 HT2 HF HR hz0
  go_wp2_with fail
  go_loopg [12] (xs1.length) (fun gl i wr => ∃ (j : Nat) (t : St) (P : Int → Option Pg), j + gl = xs1.length ∧ i = .int .i64 j ∧ Hid (VKeep W wr s M t [⟨sp, pm, P⟩]) ∧ Hid (∀ f k, I64 (t.m f k)))
  case atStart => exact ⟨0, t, _, by omega, rfl, HK, HM0⟩
  case round =>
    clear HK HM0
    obtain ⟨j, t, P, hj, rfl, hK, hM⟩ := hrel
    by_cases hlt : j < xs1.length
    · have hlt' : (j : Int) < xs1.length := by omega
      obtain ⟨⟨x0, x1, x2, x3, x4⟩, hx⟩ : ∃ x, xs1[j]? = some x := ⟨_, List.getElem?_eq_getElem hlt⟩
      obtain ⟨b, off, rfl, hO, hb⟩ := HC1.out (by rintro rfl; simp at hlt)
      obtain ⟨d0, d1, d2, d3, d4, d5⟩ := hO.turned hK.out.turn hb id j _ hx
      simp only at d0 d1 d2 d3 d4 d5
      have HU := hid (use_alone hK.out hM.out x0 x1 x2 x3 x4 d5)
      clear hO hx d5
      go_wp2_with fail
      refine HU.out.mono ?_
      rintro e w5 ⟨z5, P5, t5, rfl, hm5, hK5⟩
      have HK5 := hid hK5
      have HM5 := hid hm5
      clear hm5 hK5 HU d0 d1 d2 d3 d4
      go_wp2_with fail
      go_roundg (gk - 1)
      case measure => omega
      case rel => exact ⟨j + 1, t5, P5, by omega, by go_num, HK5, HM5⟩
    · have hlt' : ¬ (j : Int) < xs1.length := by omega
      have hx0 : [(⟨sp, pm, P⟩ : Spc)][0]? = some ⟨sp, pm, P⟩ := rfl
      have HFk := hid (vmFork_is hK.out.all.store (hK.out.all.sps 0 _ hx0) (hK.out.all.off 0 _ hx0) (fun f hf => by rw [hK.out.all.refs f hf]; exact sumC_pos hx0 f) (fun f hf => R_small hK.out.all (by simp) f hf))
      simp only at HFk
      clear hx0
      go_wp2_with fail
      refine HFk.out.mono ?_
      rintro e w5 ⟨sp2, pm2, rl, rfl, hS5, hA5, hR5, l5, l5'⟩
      have hAA := hK.out.all.forked (k := 0) rfl hS5 hA5 hR5 l5 l5'
      simp only [List.cons_append, List.nil_append] at hAA
      have HK5 := hid (hK.out.next hAA)
      clear hS5 hA5 hR5 l5 l5' hAA HFk
      obtain ⟨t5, ht5⟩ : ∃ t5 : St, t5 = { t with rl := rl } := ⟨_, rfl⟩
      rw [← ht5] at HK5
      have HM5 : Hid (∀ f k, I64 (t5.m f k)) := hid (by rw [ht5]; exact hM.out)
      clear ht5
      obtain ⟨wt, hwt⟩ : ∃ wt, WT t5.m P = wt := ⟨_, rfl⟩
      have HWs := hid (HK5.out.words (k := 0) rfl HM5.out HTb.out HL.out)
      simp only at HWs
      rw [hwt] at HWs
      have HWt := hid hwt
      clear hwt
      go_wp2_with fail
      refine HWs.out.mono ?_
      rintro e w6 ⟨rfl, t6⟩
      have HK6 := hid (HK5.out.still t6)
      have HWs6 := hid (HK6.out.words (k := 1) rfl HM5.out HTb.out HL.out)
      simp only at HWs6
      rw [HWt.out] at HWs6
      clear t6 HWs HK5
      go_wp2_with fail
      refine HWs6.out.mono ?_
      rintro e w7 ⟨rfl, t7⟩
      have HK7 := hid (HK6.out.still t7)
      clear t7 HWs6 HK6
      have HLy := hid (vmLen_is (HK7.out.all.sps 1 _ rfl))
      have HLx := hid (vmLen_is (HK7.out.all.sps 0 _ rfl))
      have HRy := hid (fun w' (tt : Turn (fun _ => False) w7 w') => vmRes_is (HK7.out.all.turned tt (fun _ _ => id) |>.sps 1 _ rfl))
      have HRx := hid (fun w' (tt : Turn (fun _ => False) w7 w') => vmRes_is (HK7.out.all.turned tt (fun _ _ => id) |>.sps 0 _ rfl))
      simp only at HLy HLx HRy HRx
      obtain ⟨LN, hLN⟩ : ∃ LN : Nat, lenP P = LN := ⟨_, rfl⟩
      obtain ⟨RN, hRN⟩ : ∃ RN : Nat, resP P = RN := ⟨_, rfl⟩
      rw [hLN] at HLy HLx
      rw [hRN] at HRy HRx
      have hl1 : ((LN : Int) != LN) = false := by simp
      have hr1 : ((RN : Int) != RN) = false := by simp
      clear hLN hRN
      go_wp2_with fail
      refine HLy.out.mono ?_
      rintro e w8 ⟨rfl, rfl⟩
      go_wp2_with fail
      refine HLx.out.mono ?_
      rintro e w8 ⟨rfl, rfl⟩
      go_wp2_with fail
      refine (HRy.out _ (Turn.refl _ _)).mono ?_
      rintro e w8 ⟨rfl, t8⟩
      have HT8 := hid t8
      clear t8
      go_wp2_with fail
      refine (HRx.out _ HT8.out).mono ?_
      rintro e w9 ⟨rfl, t9⟩
      have HK9 := hid ((HK7.out.still HT8.out).still t9)
      clear t9 HT8 HLy HLx HRy HRx HK7
      go_wp2_with fail
      go_loopg [15] (xs2.length) (fun gl i wr => ∃ (j : Nat) (t : St) (P2 : Int → Option Pg), j + gl = xs2.length ∧ i = .int .i64 j ∧ Hid (VKeep W wr s M t [⟨sp, pm, P⟩, ⟨sp2, pm2, P2⟩]) ∧ Hid (∀ f k, I64 (t.m f k)) ∧ Hid (WT t.m P = wt))
      case atStart => exact ⟨0, t5, P, by omega, rfl, HK9, HM5, HWt⟩
      case round =>
        clear HK9 HM5 HWt
        obtain ⟨j, t, P2, hj, rfl, hK, hM, hW⟩ := hrel
        by_cases hlt2 : j < xs2.length
        · have hlt2' : (j : Int) < xs2.length := by omega
          obtain ⟨⟨x0, x1, x2, x3, x4⟩, hx⟩ : ∃ x, xs2[j]? = some x := ⟨_, List.getElem?_eq_getElem hlt2⟩
          obtain ⟨b, off, rfl, hO, hb⟩ := HC2.out (by rintro rfl; simp at hlt2)
          obtain ⟨d0, d1, d2, d3, d4, d5⟩ := hO.turned hK.out.turn hb id j _ hx
          simp only at d0 d1 d2 d3 d4 d5
          have HU := hid (use_second hK.out hM.out x0 x1 x2 x3 x4 d5)
          simp only at HU
          clear hO hx d5
          go_wp2_with fail
          refine HU.out.mono ?_
          rintro e w5 ⟨z5, P5, t5, rfl, hm5, hw5, hK5⟩
          have HK5 := hid hK5
          have HM5 := hid hm5
          have HW5 := hid (hw5.trans hW.out)
          have HWs := hid (hK5.words (k := 0) rfl hm5 HTb.out HL.out)
          simp only at HWs
          rw [HW5.out] at HWs
          clear hm5 hK5 hw5 HU d0 d1 d2 d3 d4
          go_wp2_with fail
          refine HWs.out.mono ?_
          rintro e w6 ⟨rfl, t6⟩
          have HK6 := hid (HK5.out.still t6)
          clear t6 HWs
          go_wp2_with fail
          go_roundg (gk - 1)
          case measure => omega
          case rel => exact ⟨j + 1, t5, P5, by omega, by go_num, HK6, HM5, HW5⟩
        · have hlt2' : ¬ (j : Int) < xs2.length := by omega
          obtain ⟨nt, hnt⟩ : ∃ nt, WT t.m P2 = nt := ⟨_, rfl⟩
          have HWs := hid (hK.out.words (k := 1) rfl hM.out HTb.out HL.out)
          simp only at HWs
          rw [hnt] at HWs
          have HNt := hid hnt
          clear hnt
          go_wp2_with fail
          refine HWs.out.mono ?_
          rintro e w6 ⟨rfl, t6⟩
          have HK6 := hid (hK.out.still t6)
          clear t6 HWs
          go_wp2_with fail
          go_loopg [17] (xs3.length) (fun gl i wr => ∃ (j : Nat) (t : St) (P1 : Int → Option Pg), j + gl = xs3.length ∧ i = .int .i64 j ∧ Hid (VKeep W wr s M t [⟨sp, pm, P1⟩, ⟨sp2, pm2, P2⟩]) ∧ Hid (∀ f k, I64 (t.m f k)) ∧ Hid (WT t.m P2 = nt))
          case atStart => exact ⟨0, t, P, by omega, rfl, HK6, hM, HNt⟩
          case round =>
            clear HK6 hM hK hW HNt
            obtain ⟨j, t, P1, hj, rfl, hK, hM, hW⟩ := hrel
            by_cases hlt3 : j < xs3.length
            · have hlt3' : (j : Int) < xs3.length := by omega
              obtain ⟨⟨x0, x1, x2, x3, x4⟩, hx⟩ : ∃ x, xs3[j]? = some x := ⟨_, List.getElem?_eq_getElem hlt3⟩
              obtain ⟨b, off, rfl, hO, hb⟩ := HC3.out (by rintro rfl; simp at hlt3)
              obtain ⟨d0, d1, d2, d3, d4, d5⟩ := hO.turned hK.out.turn hb id j _ hx
              simp only at d0 d1 d2 d3 d4 d5
              have HU := hid (use_first hK.out hM.out x0 x1 x2 x3 x4 d5)
              simp only at HU
              clear hO hx d5
              go_wp2_with fail
              refine HU.out.mono ?_
              rintro e w5 ⟨z5, P5, t5, rfl, hm5, hw5, hK5⟩
              have HK5 := hid hK5
              have HM5 := hid hm5
              have HW5 := hid (hw5.trans hW.out)
              have HWs := hid (hK5.words (k := 1) rfl hm5 HTb.out HL.out)
              simp only at HWs
              rw [HW5.out] at HWs
              clear hm5 hK5 hw5 HU d0 d1 d2 d3 d4
              go_wp2_with fail
              refine HWs.out.mono ?_
              rintro e w6 ⟨rfl, t6⟩
              have HK6 := hid (HK5.out.still t6)
              clear t6 HWs
              go_wp2_with fail
              go_roundg (gk - 1)
              case measure => omega
              case rel => exact ⟨j + 1, t5, P5, by omega, by go_num, HK6, HM5, HW5⟩
            · have hlt3' : ¬ (j : Int) < xs3.length := by omega
              have HCl := hid (vmClear_is (hK.out.all.at (k := 0) rfl))
              simp only at HCl
              go_wp2_with fail
              refine HCl.out.mono ?_
              rintro e w5 ⟨rfl, t5, hm5, hA5⟩
              have hAA := hK.out.all.after (k := 0) rfl hA5
              have HK5 := hid (hK.out.next hAA)
              have HM5 : Hid (∀ f k, I64 (t5.m f k)) := hid (by rw [hm5]; exact hM.out)
              have HW5 : Hid (WT t5.m P2 = nt) := hid (by rw [hm5]; exact hW.out)
              have HWs := hid (HK5.out.words (k := 1) rfl HM5.out HTb.out HL.out)
              simp only at HWs
              rw [HW5.out] at HWs
              clear hm5 hA5 hAA HCl hK hM hW
              go_wp2_with fail
              refine HWs.out.mono ?_
              rintro e w6 ⟨rfl, t6⟩
              have HK6 := hid (HK5.out.still t6)
              have HLx := hid (vmLen_is (HK6.out.all.sps 0 _ rfl))
              have HRx := hid (vmRes_is (HK6.out.all.sps 0 _ rfl))
              simp only at HLx HRx
              have hl0 : lenP (fun _ => none) = 0 := sumN_zero (fun _ _ => rfl)
              have hr0 : resP (fun _ => none) = 0 := sumN_zero (fun _ _ => rfl)
              rw [hl0] at HLx
              rw [hr0] at HRx
              clear t6 HWs HK5 hl0 hr0
              go_wp2_with fail
              refine HLx.out.mono ?_
              rintro e w7 ⟨rfl, rfl⟩
              go_wp2_with fail
              refine HRx.out.mono ?_
              rintro e w7 ⟨rfl, t7⟩
              have HT7 := hid (HK6.out.turn.trans t7)
              clear t7 HRx
              go_wp2_with fail
              go_ret
              exact ⟨rfl, HT7.out⟩
end Go.Proofs.YtiohpmcedfbcgacGreatDoor
