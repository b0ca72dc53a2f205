/- The document's processes: Kill, Ignore, Take. Conditions: each theorem's own premises. -/
import Derived.Test.YtiohpmcedfbcgabDoorRefProc
import Derived.Deep.DeepCutAuto
namespace Go.Proofs.YtiohpmcedfbcgabDoor
open Go.RowKit
set_option linter.unusedVariables false

theorem within (n lo hi : Int) (w : World) : Calls Tryd.prog 107 #[.int .i64 n, .int .i64 lo, .int .i64 hi] w fun e w' => e = .returned (.bool (decide (lo ≤ n ∧ n ≤ hi))) ∧ w = w' := by
  by_cases h1 : lo ≤ n
  · by_cases h2 : n ≤ hi
    · have e : decide (lo ≤ n ∧ n ≤ hi) = true := decide_eq_true ⟨h1, h2⟩
      rw [e]
      go_enter Tryd.func107, Tryd.ntmps107
      go_wp2
      go_ret
      exact ⟨rfl, rfl⟩
    · have e : decide (lo ≤ n ∧ n ≤ hi) = false := decide_eq_false (fun h => h2 h.2)
      rw [e]
      have h2' : decide (n ≤ hi) = false := decide_eq_false h2
      clear e h2
      go_enter Tryd.func107, Tryd.ntmps107
      go_wp2
      go_ret
      exact ⟨rfl, rfl⟩
  · have e : decide (lo ≤ n ∧ n ≤ hi) = false := decide_eq_false (fun h => h1 h.1)
    rw [e]
    have h1' : decide (lo ≤ n) = false := decide_eq_false h1
    clear e h1
    go_enter Tryd.func107, Tryd.ntmps107
    go_wp2
    go_ret
    exact ⟨rfl, rfl⟩
theorem within_yes (n lo hi : Int) (h : lo ≤ n ∧ n ≤ hi) (w : World) : Calls Tryd.prog 107 #[.int .i64 n, .int .i64 lo, .int .i64 hi] w fun e w' => e = .returned (.bool true) ∧ w = w' := by
  have h1 := within n lo hi w
  rw [decide_eq_true h] at h1
  exact h1
theorem within_no (n lo hi : Int) (h : ¬ (lo ≤ n ∧ n ≤ hi)) (w : World) : Calls Tryd.prog 107 #[.int .i64 n, .int .i64 lo, .int .i64 hi] w fun e w' => e = .returned (.bool false) ∧ w = w' := by
  have h1 := within n lo hi w
  rw [decide_eq_false h] at h1
  exact h1

def updM (M : Nat → List (Int × Int)) (x : Nat) (m : List (Int × Int)) : Nat → List (Int × Int) := fun j => if j = x then m else M j
theorem updM_same (M : Nat → List (Int × Int)) (x : Nat) (m : List (Int × Int)) : updM M x m x = m := by simp [updM]
theorem updM_other (M : Nat → List (Int × Int)) {x j : Nat} (m : List (Int × Int)) (h : j ≠ x) : updM M x m j = M j := by simp [updM, h]
theorem updM_twice (M : Nat → List (Int × Int)) (x : Nat) (a b : List (Int × Int)) : updM (updM M x a) x b = updM M x b := by
  funext j
  by_cases e : j = x
  · subst e; rw [updM_same, updM_same]
  · rw [updM_other _ _ e, updM_other _ _ e, updM_other _ _ e]
theorem updP_twice (f : Nat → Pr) (x : Nat) (a b : Pr) : updP (updP f x a) x b = updP f x b := by
  funext j
  by_cases e : j = x
  · subst e; rw [updP_same, updP_same]
  · rw [updP_other _ _ e, updP_other _ _ e, updP_other _ _ e]
section
variable {w w1 : World} {rb pm : Nat} {l : List (Int × Nat)} {f : Nat → Pr} {G : Nat → DP} {M : Nat → List (Int × Int)}
theorem DocIs.sub (h : DocIs w rb pm l G M) {x : Nat} {m : List (Int × Int)} (hm : MapIs w1 x (.int .i64) encI encN m) (t : Turn (fun j => j = x) w w1) (h1 : x ≠ rb) (h2 : x ≠ pm) : DocIs w1 rb pm l G (updM M x m) := by
  refine ⟨(t.cell (a := ⟨rb, 0, none⟩) (lt_of_cell h.hdr) (fun e => h1 e.symm)).trans h.hdr, h.mp.turned t (fun e => h2 e.symm), fun s hs => ?_, fun s hs => ?_, h.ap, h.inj, h.ne⟩
  · by_cases e : (G s.2).wb = x
    · rw [e, updM_same]; exact hm
    · rw [updM_other _ _ e]; exact (h.sw s hs).turned t e
  · by_cases e : (G s.2).ib = x
    · rw [e, updM_same]; exact hm
    · rw [updM_other _ _ e]; exact (h.si s hs).turned t e
theorem Coup.setW (hc : Coup l f G M) (h : DocIs w rb pm l G M) {pid : Int} {b : Nat} (hb : (pid, b) ∈ l) {m : List (Int × Int)} {v : Int} (hs : SigM m v) : Coup l (updP f b { f b with waits := v }) G (updM M (G b).wb m) := fun t ht => by
  obtain ⟨c1, c2, c3, c4, c5⟩ := hc t ht
  by_cases e : t.2 = b
  · rw [e] at c1 c2 c3 c5 ⊢
    rw [updP_same, updM_same, updM_other _ _ (fun e2 => (h.ap _ hb).2.2 e2.symm)]
    exact ⟨c1, c2, c3, hs, c5⟩
  · rw [updP_other _ _ e, updM_other _ _ (fun e2 => (h.inj t ht _ hb e).1 e2), updM_other _ _ (fun e2 => (h.inj _ hb t ht (fun e3 => e e3.symm)).2.2 e2.symm)]
    exact ⟨c1, c2, c3, c4, c5⟩
theorem Coup.setI (hc : Coup l f G M) (h : DocIs w rb pm l G M) {pid : Int} {b : Nat} (hb : (pid, b) ∈ l) {m : List (Int × Int)} {v : Int} (hs : SigM m v) : Coup l (updP f b { f b with ignores := v }) G (updM M (G b).ib m) := fun t ht => by
  obtain ⟨c1, c2, c3, c4, c5⟩ := hc t ht
  by_cases e : t.2 = b
  · rw [e] at c1 c2 c3 c4 ⊢
    rw [updP_same, updM_same, updM_other _ _ (h.ap _ hb).2.2]
    exact ⟨c1, c2, c3, c4, hs⟩
  · rw [updP_other _ _ e, updM_other _ _ (fun e2 => (h.inj t ht _ hb e).2.2 e2), updM_other _ _ (fun e2 => (h.inj t ht _ hb e).2.1 e2)]
    exact ⟨c1, c2, c3, c4, c5⟩
end
theorem SigM.get {m : List (Int × Int)} {W : Nat} (h : SigM m (W : Int)) (s : Nat) (h1 : 1 ≤ s) (h8 : s ≤ 8) : mget m (s : Int) = if W.testBit s = true then some 1 else none := by
  obtain ⟨X, e, _, hX⟩ := h
  obtain rfl : W = X := by omega
  rw [hX, Int.toNat_natCast]
  by_cases hb : W.testBit s = true
  · rw [if_pos ⟨by omega, by omega, hb⟩, if_pos hb]
  · rw [if_neg (fun h => hb h.2.2), if_neg hb]
theorem SigM.lt {m : List (Int × Int)} {W : Nat} (h : SigM m (W : Int)) : W < 512 := by
  obtain ⟨X, e, h1, _⟩ := h
  omega
theorem SigM.put {m : List (Int × Int)} {W : Nat} (h : SigM m (W : Int)) (s : Nat) (h1 : 1 ≤ s) (h8 : s ≤ 8) : SigM (mput m (s : Int) 1) ((W ||| 2 ^ s : Nat) : Int) := by
  have hW := h.lt
  obtain ⟨X, e, _, hX⟩ := h
  obtain rfl : W = X := by omega
  refine ⟨_, rfl, or_lt ⟨W, hW⟩ ⟨s, by omega⟩, fun t => ?_⟩
  rw [mget_mput, hX]
  by_cases e : t = s
  · subst e
    rw [if_pos rfl, if_pos ⟨by omega, by omega, by rw [Int.toNat_natCast, onR_bit]; simp⟩]
  · rw [if_neg e]
    by_cases hr : 1 ≤ t ∧ t ≤ 8
    · have hn : t.toNat ≠ s := by omega
      rw [onR_bit]
      simp [hn]
    · rw [if_neg (fun h => hr ⟨h.1, h.2.1⟩), if_neg (fun h => hr ⟨h.1, h.2.1⟩)]
theorem SigM.del {m : List (Int × Int)} {W : Nat} (h : SigM m (W : Int)) (s : Nat) (h1 : 1 ≤ s) (h8 : s ≤ 8) : SigM (mdel m (s : Int)) ((offR W s : Nat) : Int) := by
  have hW := h.lt
  obtain ⟨X, e, _, hX⟩ := h
  obtain rfl : W = X := by omega
  refine ⟨_, rfl, offR_lt hW h8, fun t => ?_⟩
  rw [mget_mdel, hX]
  by_cases e : t = s
  · subst e
    rw [if_pos rfl, if_neg]
    rintro ⟨_, _, h3⟩
    rw [Int.toNat_natCast, offR_bit h8] at h3
    simp at h3
  · rw [if_neg e]
    by_cases hr : 1 ≤ t ∧ t ≤ 8
    · have hn : t.toNat ≠ s := by omega
      rw [offR_bit (by omega)]
      simp [hn]
    · rw [if_neg (fun h => hr ⟨h.1, h.2.1⟩), if_neg (fun h => hr ⟨h.1, h.2.1⟩)]

theorem refKill_range {w : World} (rb : Nat) (pid s : Int) (h : ¬ (1 ≤ s ∧ s ≤ 8)) :
    Calls Tryd.prog 39 #[.pointer (some ⟨rb, 0, none⟩), .int .i64 pid, .int .i64 s] w fun e w' => e = .returned (.int .i64 2) ∧ w = w' := by
  have HI := hid (within_no s 1 8 h)
  clear h
  go_enter Tryd.func39, Tryd.ntmps39
  go_wp2_with fail
  refine (HI.out w).mono ?_
  rintro e w1 ⟨rfl, rfl⟩
  go_wp2_with fail
  go_ret
  exact ⟨rfl, rfl⟩
theorem refKill_missing {w : World} {rb pm : Nat} {l : List (Int × Nat)} {f : Nat → Pr} {G : Nat → DP} {M : Nat → List (Int × Int)} (h : DocIs w rb pm l G M) (hc : Coup l f G M) (pid s : Int) (hr : ¬ RunsIn l f pid) (h1 : 1 ≤ s ∧ s ≤ 8) :
    Calls Tryd.prog 39 #[.pointer (some ⟨rb, 0, none⟩), .int .i64 pid, .int .i64 s] w fun e w' => e = .returned (.int .i64 7) ∧ w = w' := by
  have HI := hid (within_yes s 1 8 h1)
  have HR := hid (refRuns_no h hc pid hr)
  clear h hc hr h1
  go_enter Tryd.func39, Tryd.ntmps39
  go_wp2_with fail
  refine (HI.out w).mono ?_
  rintro e w1 ⟨rfl, rfl⟩
  go_wp2_with fail
  refine HR.out.mono ?_
  rintro e w1 ⟨rfl, rfl⟩
  go_wp2_with fail
  go_ret
  exact ⟨rfl, rfl⟩
set_option maxRecDepth 100000 in
theorem refKill_runs {w : World} {rb pm : Nat} {l : List (Int × Nat)} {f : Nat → Pr} {G : Nat → DP} {M : Nat → List (Int × Int)} (h : DocIs w rb pm l G M) (hc : Coup l f G M) (pid : Int) (b s W I : Nat) (hr : RunsIn l f pid) (hb : mget l pid = some b) (h1 : 1 ≤ s) (h8 : s ≤ 8)
    (hW : (f b).waits = W) (hI : (f b).ignores = I) :
    Calls Tryd.prog 39 #[.pointer (some ⟨rb, 0, none⟩), .int .i64 pid, .int .i64 s] w fun e w' => e = .returned (.int .i64 0) ∧ DocAfter rb pm l G w w' l (updP f b { f b with waits := (killR W I s : Nat) }) := by
  have hm := mem_of_mget hb
  obtain ⟨_, _, _, c4, c5⟩ := hc _ hm
  simp only at c4 c5
  rw [hW] at c4
  rw [hI] at c5
  have HI := hid (within_yes s 1 8 (by omega))
  have HR := hid (refRuns_yes h hc pid hr)
  have lk := lookup_doc h pid
  unfold whereD at lk
  rw [hb] at lk
  simp only [Option.elim, encDP] at lk
  have li := lookup_num (h.si _ hm) (s : Int)
  simp only at li
  rw [c5.get s h1 h8] at li
  have hh := h.hdr
  have hf3 := @fld3
  have hf4 := @fld4
  have HD := hid h
  have HC := hid hc
  have HM := hid hm
  have HSW := hid c4
  have HSw := hid (h.sw _ hm)
  have HAp := hid (h.ap _ hm)
  unfold killR
  by_cases hb1 : I.testBit s = true
  · rw [if_pos hb1] at li ⊢
    simp only [Option.getD] at li
    clear h hc hr hb hm c4 c5
    go_enter Tryd.func39, Tryd.ntmps39
    go_wp2_with fail
    refine (HI.out w).mono ?_
    rintro e w1 ⟨rfl, rfl⟩
    go_wp2_with fail
    refine HR.out.mono ?_
    rintro e w1 ⟨rfl, rfl⟩
    go_wp2_with fail
    go_ret
    refine ⟨rfl, ?_⟩
    have e : updP f b { f b with waits := (W : Int) } = f := by
      funext j
      by_cases e : j = b
      · subst e; rw [updP_same, ← hW]
      · rw [updP_other _ _ e]
    rw [e]
    exact DocAfter.same HD.out HC.out (Turn.refl _ _)
  · rw [if_neg hb1] at li ⊢
    simp only [Option.getD] at li
    clear h hc hr hb hm c4 c5
    go_enter Tryd.func39, Tryd.ntmps39
    go_wp2_with fail
    refine (HI.out w).mono ?_
    rintro e w1 ⟨rfl, rfl⟩
    go_wp2_with fail
    refine HR.out.mono ?_
    rintro e w1 ⟨rfl, rfl⟩
    go_wp2_with (at_mapUpdate; refine wpList_mapput rfl _ _ _ 33 3 3 rfl Tryd.underlying33 Tryd.underlying3 keyI (G b).wb rfl HSw.out (s : Int) rfl 1 rfl ?_; intro w3 hm3 t3; have HM3 := hid hm3; have HT3 := hid t3; clear hm3 t3)
    go_ret
    refine ⟨rfl, G, _, HD.out.sub HM3.out HT3.out HAp.out.1.1 HAp.out.1.2, HC.out.setW HD.out HM.out (HSW.out.put s h1 h8), HT3.out.mono (fun k _ e => .inr (.inr ⟨_, HM.out, .inl e⟩)), fun k hk => .inl hk⟩
theorem refIgnore_range {w : World} (rb : Nat) (pid s : Int) (on : Bool) (h : ¬ (1 ≤ s ∧ s ≤ 8)) :
    Calls Tryd.prog 41 #[.pointer (some ⟨rb, 0, none⟩), .int .i64 pid, .int .i64 s, .bool on] w fun e w' => e = .returned (.int .i64 2) ∧ w = w' := by
  have HI := hid (within_no s 1 8 h)
  clear h
  go_enter Tryd.func41, Tryd.ntmps41
  go_wp2_with fail
  refine (HI.out w).mono ?_
  rintro e w1 ⟨rfl, rfl⟩
  go_wp2_with fail
  go_ret
  exact ⟨rfl, rfl⟩
theorem refIgnore_missing {w : World} {rb pm : Nat} {l : List (Int × Nat)} {f : Nat → Pr} {G : Nat → DP} {M : Nat → List (Int × Int)} (h : DocIs w rb pm l G M) (hc : Coup l f G M) (pid s : Int) (on : Bool) (hr : ¬ RunsIn l f pid) (h1 : 1 ≤ s ∧ s ≤ 8) :
    Calls Tryd.prog 41 #[.pointer (some ⟨rb, 0, none⟩), .int .i64 pid, .int .i64 s, .bool on] w fun e w' => e = .returned (.int .i64 7) ∧ w = w' := by
  have HI := hid (within_yes s 1 8 h1)
  have HR := hid (refRuns_no h hc pid hr)
  clear h hc hr h1
  go_enter Tryd.func41, Tryd.ntmps41
  go_wp2_with fail
  refine (HI.out w).mono ?_
  rintro e w1 ⟨rfl, rfl⟩
  go_wp2_with fail
  refine HR.out.mono ?_
  rintro e w1 ⟨rfl, rfl⟩
  go_wp2_with fail
  go_ret
  exact ⟨rfl, rfl⟩
set_option maxRecDepth 100000 in
theorem refIgnore_last {w : World} {rb pm : Nat} {l : List (Int × Nat)} {f : Nat → Pr} {G : Nat → DP} {M : Nat → List (Int × Int)} (h : DocIs w rb pm l G M) (hc : Coup l f G M) (pid : Int) (on : Bool) (hr : RunsIn l f pid) :
    Calls Tryd.prog 41 #[.pointer (some ⟨rb, 0, none⟩), .int .i64 pid, .int .i64 8, .bool on] w fun e w' => e = .returned (.int .i64 6) ∧ w = w' := by
  have HI := hid (within_yes 8 1 8 (by decide))
  have HR := hid (refRuns_yes h hc pid hr)
  clear h hc hr
  go_enter Tryd.func41, Tryd.ntmps41
  go_wp2_with fail
  refine (HI.out w).mono ?_
  rintro e w1 ⟨rfl, rfl⟩
  go_wp2_with fail
  refine HR.out.mono ?_
  rintro e w1 ⟨rfl, rfl⟩
  go_wp2_with fail
  go_ret
  exact ⟨rfl, rfl⟩
set_option maxHeartbeats 1000000 in
set_option maxRecDepth 100000 in
theorem refIgnore_runs {w : World} {rb pm : Nat} {l : List (Int × Nat)} {f : Nat → Pr} {G : Nat → DP} {M : Nat → List (Int × Int)} (h : DocIs w rb pm l G M) (hc : Coup l f G M) (pid : Int) (b s W I : Nat) (on : Bool) (hr : RunsIn l f pid) (hb : mget l pid = some b) (h1 : 1 ≤ s) (h7 : s ≤ 7)
    (hW : (f b).waits = W) (hI : (f b).ignores = I) :
    Calls Tryd.prog 41 #[.pointer (some ⟨rb, 0, none⟩), .int .i64 pid, .int .i64 s, .bool on] w fun e w' => e = .returned (.int .i64 0) ∧ DocAfter rb pm l G w w' l (updP f b (ignR on (f b) W I s)) := by
  have hm := mem_of_mget hb
  obtain ⟨_, _, _, c4, c5⟩ := hc _ hm
  simp only at c4 c5
  rw [hW] at c4
  rw [hI] at c5
  have HI := hid (within_yes s 1 8 (by omega))
  have HR := hid (refRuns_yes h hc pid hr)
  have hlk : ∀ (w' : World) (M' : Nat → List (Int × Int)), DocIs w' rb pm l G M' → (Instr.lookup 77 (.map (some pm)) (.int .i64 pid) false).run Tryd.prog w' = .ok (.agg #[.int .i64 (G b).parent, .int .i64 (G b).state, .int .i64 (G b).code, .map (some (G b).wb), .map (some (G b).ib)]) w' := fun w' M' h' => by
    have lk := lookup_doc h' pid
    unfold whereD at lk
    rw [hb] at lk
    exact lk
  have lk := hlk _ _ h
  have hh := h.hdr
  have hf3 := @fld3
  have hf4 := @fld4
  have hs8 : ((s : Int) == 8) = false := beq_eq_false_iff_ne.2 (by omega)
  have HLk := hid hlk
  have HD := hid h
  have HC := hid hc
  have HM := hid hm
  have HSW := hid c4
  have HSI := hid c5
  have HSw := hid (h.sw _ hm)
  have HSi := hid (h.si _ hm)
  have HAp := hid (h.ap _ hm)
  clear h hc hr hb hm c4 c5 hlk
  cases on with
  | false =>
    go_enter Tryd.func41, Tryd.ntmps41
    go_wp2_with fail
    refine (HI.out w).mono ?_
    rintro e w1 ⟨rfl, rfl⟩
    go_wp2_with fail
    refine HR.out.mono ?_
    rintro e w1 ⟨rfl, rfl⟩
    go_wp2_with (at_delete; refine wpList_mapdel rfl _ _ 33 3 3 rfl Tryd.underlying33 Tryd.underlying3 keyI (G b).ib rfl HSi.out (s : Int) rfl ?_; intro w3 hm3 t3; have HM3 := hid hm3; have HT3 := hid t3; clear hm3 t3)
    go_ret
    refine ⟨rfl, G, _, HD.out.sub HM3.out HT3.out HAp.out.2.1.1 HAp.out.2.1.2, ?_, HT3.out.mono (fun k _ e => .inr (.inr ⟨_, HM.out, .inr e⟩)), fun k hk => .inl hk⟩
    exact HC.out.setI HD.out HM.out (HSI.out.del s h1 (by omega))
  | true =>
    go_enter Tryd.func41, Tryd.ntmps41
    go_wp2_with fail
    refine (HI.out w).mono ?_
    rintro e w1 ⟨rfl, rfl⟩
    go_wp2_with fail
    refine HR.out.mono ?_
    rintro e w1 ⟨rfl, rfl⟩
    go_upto_region 9 with (at_delete; refine wpList_mapdel rfl _ _ 33 3 3 rfl Tryd.underlying33 Tryd.underlying3 keyI (G b).ib rfl HSi.out (s : Int) rfl ?_; intro w3 hm3 t3; have HM3 := hid hm3; have HT3 := hid t3; clear hm3 t3)
    have hD3 := HD.out.sub HM3.out HT3.out HAp.out.2.1.1 HAp.out.2.1.2
    have lk3 := HLk.out _ _ hD3
    have hh3 := hD3.hdr
    have HD3 := hid hD3
    have HSw3 := hid (HSw.out.turned HT3.out HAp.out.2.2)
    clear hD3
    go_upto_region 10 with (at_mapUpdate; refine wpList_mapput rfl _ _ _ 33 3 3 rfl Tryd.underlying33 Tryd.underlying3 keyI (G b).ib rfl HM3.out (s : Int) rfl 1 rfl ?_; intro w4 hm4 t4; have HM4 := hid hm4; have HT4 := hid t4; clear hm4 t4)
    have hD4 := HD3.out.sub HM4.out HT4.out HAp.out.2.1.1 HAp.out.2.1.2
    rw [updM_twice] at hD4
    have lk4 := HLk.out _ _ hD4
    have hh4 := hD4.hdr
    have HD4 := hid hD4
    have HSw4 := hid (HSw3.out.turned HT4.out HAp.out.2.2)
    clear hD4
    go_wp2_with (at_delete; refine wpList_mapdel rfl _ _ 33 3 3 rfl Tryd.underlying33 Tryd.underlying3 keyI (G b).wb rfl HSw4.out (s : Int) rfl ?_; intro w5 hm5 t5; have HM5 := hid hm5; have HT5 := hid t5; clear hm5 t5)
    go_ret
    refine ⟨rfl, G, _, HD4.out.sub HM5.out HT5.out HAp.out.1.1 HAp.out.1.2, ?_, ?_, fun k hk => .inl hk⟩
    · have h1 := (HC.out.setI HD.out HM.out ((HSI.out.del s h1 (by omega)).put s h1 (by omega))).setW HD4.out HM.out (HSW.out.del s h1 (by omega))
      rw [updP_same, updP_twice] at h1
      exact h1
    · exact ((HT3.out.trans HT4.out).mono (fun k _ e => .inr (.inr ⟨_, HM.out, .inr e⟩))).trans (HT5.out.mono (fun k _ e => .inr (.inr ⟨_, HM.out, .inl e⟩)))

theorem refTake_missing {w : World} {rb pm : Nat} {l : List (Int × Nat)} {f : Nat → Pr} {G : Nat → DP} {M : Nat → List (Int × Int)} (h : DocIs w rb pm l G M) (hc : Coup l f G M) (pid : Int) (hr : ¬ RunsIn l f pid) :
    Calls Tryd.prog 43 #[.pointer (some ⟨rb, 0, none⟩), .int .i64 pid] w fun e w' => e = .returned (.int .i64 0) ∧ w = w' := by
  have HR := hid (refRuns_no h hc pid hr)
  clear h hc hr
  go_enter Tryd.func43, Tryd.ntmps43
  go_wp2_with fail
  refine wp_loop_rounds 1 ?_
  rw [rounds_succ]
  go_wp2_with fail
  refine HR.out.mono ?_
  rintro e w1 ⟨rfl, rfl⟩
  go_wp2_with fail
  go_ret
  exact ⟨rfl, rfl⟩
set_option maxHeartbeats 1000000 in
set_option maxRecDepth 100000 in
theorem refTake_runs {w : World} {rb pm : Nat} {l : List (Int × Nat)} {f : Nat → Pr} {G : Nat → DP} {M : Nat → List (Int × Int)} (h : DocIs w rb pm l G M) (hc : Coup l f G M) (pid : Int) (b W r : Nat) (hr : RunsIn l f pid) (hb : mget l pid = some b)
    (hW : (f b).waits = W) (hl : LeastSig W r) :
    Calls Tryd.prog 43 #[.pointer (some ⟨rb, 0, none⟩), .int .i64 pid] w fun e w' => e = .returned (.int .i64 (r : Nat)) ∧ DocAfter rb pm l G w w' l (updP f b (takenR (f b) W r)) := by
  have hm := mem_of_mget hb
  obtain ⟨_, _, _, c4, c5⟩ := hc _ hm
  simp only at c4 c5
  rw [hW] at c4
  have HR := hid (refRuns_yes h hc pid hr)
  have lk := lookup_doc h pid
  unfold whereD at lk
  rw [hb] at lk
  simp only [Option.elim, encDP] at lk
  have hh := h.hdr
  have hf3 := @fld3
  have HD := hid h
  have HC := hid hc
  have HM := hid hm
  have HSW := hid c4
  have HSw := hid (h.sw _ hm)
  have HAp := hid (h.ap _ hm)
  have HL := hid hl
  clear h hc hr hb hm c4 c5 hl
  go_enter Tryd.func43, Tryd.ntmps43
  go_wp2_with fail
  go_loop [5] (fun i => ∃ j : Nat, 1 ≤ j ∧ j ≤ 9 ∧ i = .int .i64 j ∧ Hid (∀ i, 1 ≤ i → i < j → W.testBit i = false)) (fun i => 20 - (intOf i).toNat)
  case atStart => exact ⟨1, Nat.le_refl _, by decide, rfl, hid (fun i h1 h2 => by omega)⟩
  case round =>
    obtain ⟨j, hj1, hj9, rfl, hN⟩ := hrel
    by_cases h8 : j ≤ 8
    · have h8' : (j : Int) ≤ 8 := by omega
      have li := lookup_num HSw.out (j : Int)
      rw [HSW.out.get j hj1 h8] at li
      by_cases hbit : W.testBit j = true
      · rw [if_pos hbit] at li
        simp only [Option.getD] at li
        have hrj := least_of HL.out hj1 h8 hbit hN.out
        subst hrj
        clear hbit
        go_wp2_with fail
        refine HR.out.mono ?_
        rintro e w1 ⟨rfl, rfl⟩
        go_wp2_with (at_delete; refine wpList_mapdel rfl _ _ 33 3 3 rfl Tryd.underlying33 Tryd.underlying3 keyI (G b).wb rfl HSw.out (r : Int) rfl ?_; intro w3 hm3 t3; have HM3 := hid hm3; have HT3 := hid t3; clear hm3 t3)
        go_ret
        refine ⟨rfl, ?_⟩
        unfold takenR
        rw [if_neg (by omega)]
        exact ⟨G, _, HD.out.sub HM3.out HT3.out HAp.out.1.1 HAp.out.1.2, HC.out.setW HD.out HM.out (HSW.out.del r hj1 h8), HT3.out.mono (fun k _ e => .inr (.inr ⟨_, HM.out, .inl e⟩)), fun k hk => .inl hk⟩
      · rw [if_neg hbit] at li
        simp only [Option.getD] at li
        have HB := hid hbit
        clear hbit
        go_wp2_with fail
        refine HR.out.mono ?_
        rintro e w1 ⟨rfl, rfl⟩
        go_wp2_with fail
        go_round
        case rel => exact ⟨j + 1, by omega, by omega, by go_num, hid (fun i h1 h2 => by
          by_cases e : i = j
          · rw [e]; simpa using HB.out
          · exact hN.out i h1 (by omega))⟩
        case measure => simp [intOf]; omega
    · have h8' : ¬ (j : Int) ≤ 8 := by omega
      have hr0 := least_none HL.out (fun i h1 h2 => hN.out i h1 (by omega))
      subst hr0
      go_wp2_with fail
      refine HR.out.mono ?_
      rintro e w1 ⟨rfl, rfl⟩
      go_wp2_with fail
      go_ret
      refine ⟨rfl, ?_⟩
      have e : updP f b (takenR (f b) W 0) = f := by
        funext j
        by_cases e : j = b
        · subst e; rw [updP_same]; rfl
        · rw [updP_other _ _ e]
      rw [e]
      exact DocAfter.same HD.out HC.out (Turn.refl _ _)
end Go.Proofs.YtiohpmcedfbcgabDoor
