/- paged: a page that is written behind a fork. Conditions: each theorem's own premises. -/
import Derived.Test.YtiohpmcedfbcgacGreatDoorVmAll
import Derived.Test.YtiohpmcedfbcgacGreatDoorVmLoad
namespace Go.Proofs.YtiohpmcedfbcgacGreatDoor
open Go.RowKit
set_option linter.unusedVariables false

section
variable {w w' w1 w2 w3 : World} {s : SB} {n : Nat} {t t' t1 t2 : St}
theorem cntB_one {b : Nat → Bool} {g n : Nat} (hg : g < n) (h : ∀ f, f < n → b f = decide (f = g)) : cntB b n = 1 := by
  rw [cntB_sum, sumN_congr (d := fun j => if j = g then 1 else 0) (fun i hi => by rw [h i hi]; by_cases e : i = g <;> simp [e])]
  have := sumN_upd (fun _ => 0) g 1 n hg
  have h2 : sumN (fun _ => 0) n = 0 := sumN_zero (fun _ _ => rfl)
  omega
theorem cntB_two {b : Nat → Bool} {g1 g2 n : Nat} (hg : g1 < n) (hg2 : g2 < n) (hne : g1 ≠ g2) (h : ∀ f, f < n → b f = decide (f = g1 ∨ f = g2)) : cntB b n = 2 := by
  rw [cntB_sum, sumN_congr (d := fun j => if j = g1 then 1 else (fun i => if i = g2 then 1 else 0) j) (fun i hi => by
    rw [h i hi]
    by_cases e : i = g1
    · simp [e]
    · by_cases e2 : i = g2
      · simp [e2]
      · simp [e, e2])]
  have h1 := sumN_upd (fun i => if i = g2 then 1 else 0) g1 1 n hg
  have h2 := sumN_upd (fun _ => 0) g2 1 n hg2
  have h3 : sumN (fun _ => 0) n = 0 := sumN_zero (fun _ _ => rfl)
  rw [if_neg hne] at h1
  show sumN (fun j => if j = g1 then 1 else if j = g2 then 1 else 0) n = 2
  omega
theorem usedN_none {R : Int → Nat} {n : Nat} (h : ∀ f : Int, 0 ≤ f → R f = 0) : usedN R n = 0 := by
  unfold usedN
  rw [cntB_sum]
  exact sumN_zero (fun i _ => by rw [h (i : Int) (by omega)]; rfl)
def pagedP : Int → Option Pg := mapP (fun _ => none) 0 2 3
theorem pagedP_at : pagedP 0 = some (3, -1) := rfl
theorem pagedP_cnt (f : Int) (hf : 0 ≤ f) : cntF pagedP f = 0 := (mapP_cnt (P := fun _ => none) (a := 0) (k := 2) (p := 3) (by decide) f hf).trans (sumN_zero (fun _ _ => rfl))
theorem pagedP_cnt1 {g f : Int} (hg : 0 ≤ g) (hf : 0 ≤ f) : cntF (setP pagedP 0 (some (3, g))) f = if g = f then 1 else 0 := by
  have h1 := cntF_set pagedP 0 (some (3, g)) f (by omega) (by omega)
  rw [pagedP_cnt f hf, pagedP_at, hasF_some, hasF_some] at h1
  simp only at h1
  rw [if_neg (show ¬ (-1 : Int) = f by omega)] at h1
  omega
def OneFoot (s : SB) (vs : Nat → Value) (sp pm : Nat) (k : Nat) : Prop := StFoot s vs k ∨ k = sp ∨ k = pm
set_option maxHeartbeats 4000000 in
set_option maxRecDepth 100000 in
theorem paged_is (w : World) : Calls Tryz.prog 14 #[] w fun e w' => e = .returned (.bool true) ∧ Turn (fun _ => False) w w' := by
  go_enter Tryz.func14, Tryz.ntmps14
  go_wp2_with fail
  refine (vmNewStore_is 3 w (by omega) (by omega)).mono ?_
  rintro e w1 ⟨s, t, rfl, hs, hR, hm, t1, hf⟩
  have HS := hid hs
  have HR := hid hR
  have HM := hid hm
  have HT1 := hid t1
  have HF := hid hf
  clear hs hR hm t1 hf
  go_wp2_with fail
  refine (vmNew_is s.sb w1).mono ?_
  rintro e w2 ⟨sp, pm, rfl, hsp, t2, hsp1, hpm1⟩
  have HA2 : Hid (VmAll w2 s 3 t [⟨sp, pm, fun _ => none⟩]) := hid (VmAll.first (HS.out.turned t2 (fun _ _ => id)) HR.out hsp ⟨fun h => by have := HS.out.foot_lt _ h; omega, fun h => by have := HS.out.foot_lt _ h; omega⟩)
  have HNew : Hid (∀ k, AllFoot s t.vs [(⟨sp, pm, fun _ => none⟩ : Spc)] k → w.heap.size ≤ k) := hid (fun k hk => by
    have hz := HT1.out.size
    rcases hk with hk | ⟨i, x, hx, hk⟩
    · exact HF.out k hk
    · cases i with
      | zero =>
        cases hx
        rcases hk with rfl | rfl
        · omega
        · omega
      | succ i => simp at hx)
  have HT2 := hid (HT1.out.trans t2)
  clear hsp t2 HS HF HT1
  have HMp := hid (vmMap_any (HA2.out.at (k := 0) rfl).space 0 2 3)
  go_wp2_with fail
  refine HMp.out.mono ?_
  have em : mapE (fun _ => none) 0 2 3 = 0 := by decide
  simp only [em, if_true]
  rintro e w3 ⟨rfl, hS3, t3⟩
  have HA3 := hid (HA2.out.after (k := 0) rfl ((HA2.out.at (k := 0) rfl).ofSp t3 hS3 (fun f hf => by rw [show mapP (fun _ => none) 0 2 3 = pagedP from rfl, pagedP_cnt f hf]; exact (sumN_zero (fun _ _ => rfl)).symm)))
  clear hS3 t3 em HMp
  have HSt := hid (vmStore_any (HA3.out.1.at (k := 0) rfl) 0 1 5)
  unfold VmErr
  go_wp2_with fail
  refine HSt.out.mono ?_
  have ea : accE pagedP 0 1 2 = 0 := by decide
  have hu0 : usedN t.R 3 = 0 := usedN_none (fun f _ => HR.out f)
  rintro e w4 (⟨hz, _⟩ | ⟨_, _, _, q, hq, ⟨h1, _⟩ | ⟨_, h1, _⟩ | ⟨_, rfl, g, t4, g0, gn, gR, hm4, hA4⟩⟩)
  · exact absurd ea hz
  · rw [show mapP (fun _ => none) 0 2 3 = pagedP from rfl, pagedP_at] at hq
    cases hq
    have h2 : (0 : Int) ≤ -1 := h1.1
    omega
  · omega
  rw [show mapP (fun _ => none) 0 2 3 = pagedP from rfl, pagedP_at] at hq
  cases hq
  have HA4 := hid (HA3.out.trans (HA3.out.1.after (k := 0) rfl hA4))
  have HM4 : Hid (t4.m = newM t.m (-1) g 1 5) := hid hm4
  have HG := hid (show 0 ≤ g ∧ g < 3 from ⟨g0, gn⟩)
  clear hA4 hm4 gR HSt ea hu0 g0 gn
  simp only [List.set] at HA4
  have HC4 : Hid (∀ f, 0 ≤ f → t4.R f = if g = f then 1 else 0) := hid (fun f hf => by
    have h1 := HA4.out.1.refs f hf
    have h2 := pagedP_cnt1 (g := g) HG.out.1 hf
    rw [h1]
    show cntF (setP (mapP (fun _ => none) 0 2 3) 0 (some (3, g))) f + 0 = _
    rw [show mapP (fun _ => none) 0 2 3 = pagedP from rfl, h2]
    rfl)
  have HFk := hid (vmFork_is HA4.out.1.store (HA4.out.1.sps 0 _ rfl) (HA4.out.1.off 0 _ rfl) (fun f hf => by rw [HA4.out.1.refs f hf]; exact sumC_pos (k := 0) rfl f) (fun f hf => R_small HA4.out.1 (by simp) f hf))
  go_wp2_with fail
  refine HFk.out.mono ?_
  rintro e w5 ⟨sp2, pm2, rl, rfl, hS5, hA5, hR5, l5, l5'⟩
  have HA5 := hid (HA4.out.1.forked (k := 0) rfl hS5 hA5 hR5 l5 l5')
  have HR5 := hid hR5
  clear hS5 hA5 hR5 l5 l5' HFk
  simp only [List.cons_append, List.nil_append] at HA5
  generalize ht5 : ({ t4 with rl := rl } : St) = t5 at *
  have HM5 : Hid (t5.m = t4.m) := hid (by rw [← ht5])
  have HC5 : Hid (∀ f, 0 ≤ f → t5.R f = if g = f then 2 else 0) := hid (fun f hf => by
    rw [HR5.out f hf, HC4.out f hf]
    show _ + cntF (setP pagedP 0 (some (3, g))) f = _
    rw [pagedP_cnt1 HG.out.1 hf]
    split <;> rfl)
  have hu5 : usedN t5.R 3 = 1 := cntB_one (g := g.toNat) (by have := HG.out; omega) (fun f hf => by
    rw [HC5.out (f : Int) (by omega)]
    have := HG.out
    by_cases e : g = (f : Int)
    · rw [if_pos e]; simp; omega
    · rw [if_neg e]; simp; omega)
  have HL5 := hid (vmLeft_is HA5.out.1.store)
  rw [hu5] at HL5
  have HU5 := hid hu5
  clear ht5 hu5 HR5
  have HSt2 := hid (vmStore_any (HA5.out.1.at (k := 1) rfl) 0 1 6)
  go_wp2_with (go_at_call 81; refine HL5.out.mono ?_; rintro e w6 ⟨rfl, rfl⟩)
  refine HSt2.out.mono ?_
  have hP0 : setP (mapP (fun _ => none) 0 2 3) 0 (some (3, g)) 0 = some (3, g) := rfl
  have ea : accE (setP (mapP (fun _ => none) 0 2 3) 0 (some (3, g))) 0 1 2 = 0 := by
    unfold accE
    rw [hP0]
    rfl
  have hg5 := HC5.out g HG.out.1
  rw [if_pos rfl] at hg5
  rintro e w7 (⟨hz, _⟩ | ⟨_, _, _, q, hq, ⟨h1, _⟩ | ⟨_, h1, _⟩ | ⟨_, rfl, g2, t7, g0, gn, gR, hm7, hA7⟩⟩)
  · exact absurd ea hz
  · rw [hP0] at hq
    cases hq
    have h2 := h1.2
    simp only at h2
    omega
  · have := HU5.out; omega
  rw [hP0] at hq
  cases hq
  have HA7 := hid (HA5.out.trans (HA5.out.1.after (k := 1) rfl hA7))
  have HM7 : Hid (t7.m = newM t5.m g g2 1 6) := hid hm7
  have hne : g ≠ g2 := fun e => by rw [e] at hg5; omega
  have HG2 := hid (show 0 ≤ g2 ∧ g2 < 3 ∧ g ≠ g2 from ⟨g0, gn, hne⟩)
  clear hA7 hm7 gR HSt2 ea hP0 hg5 g0 gn hne
  simp only [List.set] at HA7
  have HC7 : Hid (∀ f, 0 ≤ f → t7.R f = (if g = f then 1 else 0) + if g2 = f then 1 else 0) := hid (fun f hf => by
    have h1 := HA7.out.1.refs f hf
    have h2 := pagedP_cnt1 (g := g) HG.out.1 hf
    have h3 := pagedP_cnt1 (g := g2) HG2.out.1 hf
    have e : setP (setP pagedP 0 (some (3, g))) 0 (some (3, g2)) = setP pagedP 0 (some (3, g2)) := by
      funext x
      unfold setP
      by_cases e : x = 0
      · rw [if_pos e, if_pos e]
      · rw [if_neg e, if_neg e, if_neg e]
    rw [h1]
    show cntF (setP pagedP 0 (some (3, g))) f + (cntF (setP (setP pagedP 0 (some (3, g))) 0 (some (3, g2))) f + 0) = _
    rw [e, h2, h3]
    rfl)
  have hu7 : usedN t7.R 3 = 2 := cntB_two (g1 := g.toNat) (g2 := g2.toNat) (by have := HG.out; omega) (by have := HG2.out; omega) (by have := HG.out; have := HG2.out; omega) (fun f hf => by
    rw [HC7.out (f : Int) (by omega)]
    have h1 := HG.out
    have h2 := HG2.out
    by_cases e : g = (f : Int)
    · rw [if_pos e]
      exact (decide_eq_true (by omega)).trans (decide_eq_true (by omega)).symm
    · by_cases e2 : g2 = (f : Int)
      · rw [if_pos e2]
        exact (decide_eq_true (by omega)).trans (decide_eq_true (by omega)).symm
      · rw [if_neg e, if_neg e2]
        exact (decide_eq_false (by omega)).trans (decide_eq_false (by omega)).symm)
  have HU7 := hid hu7
  clear hu7
  have HLd := hid (vmLoad_is HA7.out.1.store (HA7.out.1.sps 0 _ rfl) (fun i q hq h0 => by
    have hd := (HA7.out.1.sps 0 _ rfl).dom i q hq
    have h1 := cntF_ge (P := setP (mapP (fun _ => none) 0 2 3) 0 (some (3, g))) (i := i) (f := q.2) hd.1 hd.2
    simp only at hq
    rw [hq, hasF_some, if_pos rfl] at h1
    have h2 := HA7.out.1.refs q.2 h0
    have h3 := sumC_pos (l := [(⟨sp, pm, setP (mapP (fun _ => none) 0 2 3) 0 (some (3, g))⟩ : Spc), ⟨sp2, pm2, setP (setP (mapP (fun _ => none) 0 2 3) 0 (some (3, g))) 0 (some (3, g2))⟩]) (k := 0) rfl q.2
    simp only at h3
    omega) 0 1)
  have el : LoadIs (setP (mapP (fun _ => none) 0 2 3) 0 (some (3, g))) t7.m 0 1 w7 = fun e w' => e = .returned (.tuple #[.int .i64 5, .nilIface]) ∧ Turn (fun _ => False) w7 w' := by
    have ea : accE (setP (mapP (fun _ => none) 0 2 3) 0 (some (3, g))) 0 1 1 = 0 := rfl
    have ev : loadV (setP (mapP (fun _ => none) 0 2 3) 0 (some (3, g))) t7.m 0 1 = 5 := by
      unfold loadV
      rw [if_pos ea]
      show wordV t7.m (3, g) 1 = 5
      unfold wordV
      have h1 := HG.out
      have h2 := HG2.out
      rw [if_neg (by simp only; omega), HM7.out]
      unfold newM
      rw [if_neg (by omega)]
      have hne : g.toNat ≠ g2.toNat := by omega
      unfold memSet memCopy
      simp only
      rw [if_neg (fun e => hne e.1), if_neg hne, HM5.out, HM4.out]
      unfold newM memSet
      rw [if_pos ⟨rfl, rfl⟩]
    funext e w'
    unfold LoadIs
    rw [ea, ev]
    rfl
  simp only at HLd
  rw [el] at HLd
  clear el
  go_wp2_with fail
  refine HLd.out.mono ?_
  rintro e w8 ⟨rfl, t8⟩
  have HT8 := hid t8
  have HL8 := hid (vmLeft_is (HA7.out.1.turned t8 (fun _ _ => id)).store)
  rw [HU7.out] at HL8
  clear t8
  go_wp2_with fail
  refine HL8.out.mono ?_
  rintro e w9 ⟨rfl, rfl⟩
  go_wp2_with fail
  go_ret
  exact ⟨rfl, (HT2.out.trans' (HA4.out.trans HA7.out).2.1 (fun k hk hf => absurd (HNew.out k hf) (by omega))).trans HT8.out⟩
end
end Go.Proofs.YtiohpmcedfbcgacGreatDoor
