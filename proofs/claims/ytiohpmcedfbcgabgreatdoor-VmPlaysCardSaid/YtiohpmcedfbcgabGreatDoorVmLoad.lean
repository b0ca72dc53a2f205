/- Several texts of ours in one, in build order (VmLoad, VmNew, VmLen). Conditions: each theorem's own premises. -/
import Derived.Test.YtiohpmcedfbcgabGreatDoorVmMap
import Derived.Handy
/- Package vm: access, Load, Len, Left. Conditions: each theorem's own premises. -/
namespace Go.Proofs.YtiohpmcedfbcgabGreatDoor
open Go.RowKit
set_option linter.unusedVariables false

section
variable {w w' : World} {s : SB} {n : Nat} {t : St} {sp pm sb : Nat} {P P' : Int → Option Pg} {O : Int → Nat}
/-- What is wrong with a word's use. -/
def accE (P : Int → Option Pg) (a wd pr : Int) : Int := (P a).elim 7 fun q => if wd < 0 ∨ 7 < wd then 2 else if q.1 = 3 - pr then 13 else 0
theorem and_prot {p pr : Int} (h : 1 ≤ p ∧ p ≤ 3) (h2 : 1 ≤ pr ∧ pr ≤ 2) : (bits BinOp.and IntKind.i64 p pr == 0) = decide (p = 3 - pr) := by
  obtain ⟨h, h'⟩ := h
  obtain ⟨h2, h2'⟩ := h2
  have e1 : p = 1 ∨ p = 2 ∨ p = 3 := by omega
  have e2 : pr = 1 ∨ pr = 2 := by omega
  rcases e1 with rfl | rfl | rfl <;> rcases e2 with rfl | rfl <;> decide +kernel
def Accessed (P : Int → Option Pg) (a wd pr : Int) (w : World) (e : Ending) (w' : World) : Prop :=
  e = .returned (.tuple #[encPg ((P a).getD noPg), VmErr (accE P a wd pr)]) ∧ Turn (fun _ => False) w w'
set_option maxHeartbeats 1000000 in
set_option maxRecDepth 100000 in
theorem access_is (h : SpIs w sp pm sb P) (a wd pr : Int) (hpr : 1 ≤ pr ∧ pr ≤ 2) :
    Calls Tryz.prog 64 #[.pointer (some ⟨sp, 0, none⟩), .int .i64 a, .int .i64 wd, .int .i64 pr] w (Accessed P a wd pr w) := by
  have hsd : SpIs (w.alloc (.cells #[.int .i64 0, .int .i64 0] 143)) sp pm sb P := h.turned ((Turn.refl (fun _ => False) w).alloc _) id id
  have lk := lookok_page hsd a
  have c1 := hsd.c1
  have hok := h.ok a
  unfold Accessed accE
  have hlt := h.lt
  clear h hsd
  cases hP : P a with
  | none =>
    rw [hP] at lk
    simp only [Option.getD_none, Option.isSome_none, encPg, noPg] at lk ⊢
    clear hP hok
    go_enter Tryz.func64, Tryz.ntmps64
    go_wp2_with fail
    all_goals
      go_returns
      exact ⟨by simp [VmErr], ((Turn.refl _ _).alloc _).alloc _⟩
  | some q =>
    obtain ⟨q1, f⟩ := q
    rw [hP] at lk
    have hq := hok _ hP
    simp only at hq
    have hb := and_prot (p := q1) (pr := pr) ⟨hq.1, hq.2.1⟩ hpr
    simp only [Option.getD_some, Option.isSome_some, encPg, Option.elim] at lk ⊢
    clear hP hok
    by_cases h1 : wd < 0
    · rw [if_pos (.inl h1)]
      clear hb
      go_enter Tryz.func64, Tryz.ntmps64
      go_wp2_with fail
      go_returns
      refine ⟨by simp [VmErr], ?_⟩
      repeat' (first | exact Turn.refl _ _ | refine Turn.alloc ?_ _ | refine Turn.setCell ?_ _ _ (fun h => by simp at h))
    · by_cases h2 : 7 < wd
      · rw [if_pos (.inr h2)]
        clear hb
        have h2' : 8 ≤ wd := h2
        go_enter Tryz.func64, Tryz.ntmps64
        go_wp2_with fail
        go_returns
        refine ⟨by simp [VmErr], ?_⟩
        repeat' (first | exact Turn.refl _ _ | refine Turn.alloc ?_ _ | refine Turn.setCell ?_ _ _ (fun h => by simp at h))
      · rw [if_neg (fun h => h.elim h1 h2)]
        have h2' : ¬ 8 ≤ wd := h2
        by_cases h3 : q1 = 3 - pr
        · rw [if_pos h3]
          rw [decide_eq_true h3] at hb
          clear h3
          go_enter Tryz.func64, Tryz.ntmps64
          go_wp2_with fail
          go_returns
          refine ⟨by simp [VmErr], ?_⟩
          repeat' (first | exact Turn.refl _ _ | refine Turn.alloc ?_ _ | refine Turn.setCell ?_ _ _ (fun h => by simp at h))
        · rw [if_neg h3]
          rw [decide_eq_false h3] at hb
          clear h3
          go_enter Tryz.func64, Tryz.ntmps64
          go_wp2_with fail
          go_returns
          refine ⟨by simp [VmErr], ?_⟩
          repeat' (first | exact Turn.refl _ _ | refine Turn.alloc ?_ _ | refine Turn.setCell ?_ _ _ (fun h => by simp at h))

/-- A page's word. -/
def wordV (m : Nat → Nat → Int) (q : Pg) (wd : Int) : Int := if q.2 < 0 then 0 else m q.2.toNat wd.toNat
def loadV (P : Int → Option Pg) (m : Nat → Nat → Int) (a wd : Int) : Int := if accE P a wd 1 = 0 then wordV m ((P a).getD noPg) wd else 0
def LoadIs (P : Int → Option Pg) (m : Nat → Nat → Int) (a wd : Int) (w : World) (e : Ending) (w' : World) : Prop :=
  e = .returned (.tuple #[.int .i64 (loadV P m a wd), VmErr (accE P a wd 1)]) ∧ Turn (fun _ => False) w w'
theorem accE_or (P : Int → Option Pg) (a wd pr : Int) : accE P a wd pr = 7 ∧ P a = none ∨ accE P a wd pr = 2 ∨ accE P a wd pr = 13 ∨ accE P a wd pr = 0 ∧ 0 ≤ wd ∧ wd < 8 ∧ ∃ q, P a = some q ∧ q.1 ≠ 3 - pr := by
  unfold accE
  cases hP : P a with
  | none => exact .inl ⟨rfl, rfl⟩
  | some q =>
    simp only [Option.elim]
    by_cases h1 : wd < 0 ∨ 7 < wd
    · rw [if_pos h1]; exact .inr (.inl rfl)
    · rw [if_neg h1]
      by_cases h2 : q.1 = 3 - pr
      · rw [if_pos h2]; exact .inr (.inr (.inl rfl))
      · rw [if_neg h2]; exact .inr (.inr (.inr ⟨rfl, by omega, by omega, q, rfl, h2⟩))
set_option maxHeartbeats 1000000 in
set_option maxRecDepth 100000 in
theorem vmLoad_err {a wd z q1 f : Int} (HA : Hid (Calls Tryz.prog 64 #[.pointer (some ⟨sp, 0, none⟩), .int .i64 a, .int .i64 wd, .int .i64 1] w fun e w' => e = .returned (.tuple #[.agg #[.int .i64 q1, .int .i64 f], .iface 28 (.int .i64 z)]) ∧ Turn (fun _ => False) w w')) :
    Calls Tryz.prog 16 #[.pointer (some ⟨sp, 0, none⟩), .int .i64 a, .int .i64 wd] w fun e w' => e = .returned (.tuple #[.int .i64 0, .iface 28 (.int .i64 z)]) ∧ Turn (fun _ => False) w w' := by
  go_enter Tryz.func16, Tryz.ntmps16
  go_wp2_with fail
  refine HA.out.mono ?_
  rintro e w1 ⟨rfl, t1⟩
  have HT1 := hid t1
  clear t1
  go_wp2_with fail
  go_ret2
  exact ⟨rfl, HT1.out.alloc _⟩
theorem vmErr_of {z : Int} (h : z ≠ 0) : VmErr z = .iface 28 (.int .i64 z) := if_neg h
set_option maxHeartbeats 1000000 in
set_option maxRecDepth 100000 in
theorem vmLoad_is (hs : StoreIs w s n t) (h : SpIs w sp pm s.sb P) (hR : ∀ i q, P i = some q → 0 ≤ q.2 → 0 < t.R q.2) (a wd : Int) :
    Calls Tryz.prog 16 #[.pointer (some ⟨sp, 0, none⟩), .int .i64 a, .int .i64 wd] w (LoadIs P t.m a wd w) := by
  have HA := hid (access_is h a wd 1 (by omega))
  unfold Accessed at HA
  unfold LoadIs loadV
  by_cases hz : accE P a wd 1 = 0
  · rcases accE_or P a wd 1 with ⟨he, hn⟩ | he | he | ⟨he, h0, h8, ⟨q1, f⟩, hq, hq1⟩
    · omega
    · omega
    · omega
    · rw [he, hq] at HA ⊢
      have HA' : Hid (Calls Tryz.prog 64 #[.pointer (some ⟨sp, 0, none⟩), .int .i64 a, .int .i64 wd, .int .i64 1] w fun e w' => e = .returned (.tuple #[.agg #[.int .i64 q1, .int .i64 f], .nilIface]) ∧ Turn (fun _ => False) w w') := HA
      rw [if_pos rfl]
      simp only [Option.getD_some]
      unfold wordV
      simp only
      have HRf := hid (hR a (q1, f) hq)
      have H := hid h
      have HS := hid hs
      clear he hz HA h hs hR hq hq1
      by_cases hf : f < 0
      · rw [if_pos hf]
        clear H HS HRf
        go_enter Tryz.func16, Tryz.ntmps16
        go_wp2_with fail
        refine HA'.out.mono ?_
        rintro e w1 ⟨rfl, t1⟩
        have HT1 := hid t1
        clear t1
        go_wp2_with fail
        go_ret2
        exact ⟨rfl, HT1.out.alloc _⟩
      · rw [if_neg hf]
        have hfr := HS.out.frame (HRf.out (by simp only; omega))
        simp only at hfr
        go_enter Tryz.func16, Tryz.ntmps16
        go_wp2_with fail
        refine HA'.out.mono ?_
        rintro e w1 ⟨rfl, t1⟩
        have T2 := t1.alloc (.cells #[.int .i64 q1, .int .i64 f] 143)
        have hS2 := HS.out.turned T2 (fun _ _ => id)
        have c0 := (H.out.turned T2 id id).c0
        have d0 := hS2.c0
        have HT2 := hid T2
        have HG := hid (fun k => (get_yes (hS2.mem.turned ((Turn.refl (fun _ => False) _).drewN k) id id) f wd hfr.1 hfr.2 h0 h8).mono fun _ _ ⟨he, hw⟩ => (⟨he, hw.symm⟩ : _ ∧ _ = (w1.alloc (.cells #[.int .i64 q1, .int .i64 f] 143)).drewN k))
        have e0 : (w1.alloc (.cells #[.int .i64 q1, .int .i64 f] 143)).cell? ⟨w1.heap.size, 1, none⟩ = some (.int .i64 f) := by simp
        clear t1 T2 hS2
        go_wp2_with fail
        go_quiet ((go_at_call 65; with_reducible exact Calls.quiet_of_same (HG.out _)))
        all_goals go_wp2_with fail
        all_goals go_ret2
        all_goals exact ⟨rfl, HT2.out.drewN _⟩
  · rw [if_neg hz, vmErr_of hz]
    rw [vmErr_of hz] at HA
    generalize (P a).getD noPg = q at HA
    generalize accE P a wd 1 = z at HA ⊢
    exact vmLoad_err HA
/-- A sum over a map's entries is one over all pages. -/
theorem sum_pages {β : Type} (c : Option β → Nat) (hc : c none = 0) : ∀ (pl : List (Int × β)), MNodup pl → (∀ p ∈ pl, 0 ≤ p.1 ∧ p.1 < 64) → (pl.map fun p => c (some p.2)).sum = sumN (fun i => c (mget pl (i : Int))) 64
  | [], _, _ => by
    rw [sumN_zero (fun i _ => by show c (mget [] _) = 0; exact hc)]
    rfl
  | (k, v) :: pl, hn, hd => by
    have hk := hd (k, v) (List.mem_cons_self ..)
    simp only at hk
    have hn' : MNodup pl := (List.nodup_cons.1 hn).2
    have hnk : mget pl k = none := mget_none (fun p hp e => (List.nodup_cons.1 hn).1 (List.mem_map.2 ⟨p, hp, e⟩))
    have ih := sum_pages c hc pl hn' (fun p hp => hd p (List.mem_cons_of_mem _ hp))
    have h1 := sumN_upd (fun i => c (mget pl (i : Int))) k.toNat (c (some v)) 64 (by omega)
    have e : sumN (fun i => c (mget ((k, v) :: pl) (i : Int))) 64 = sumN (fun j => if j = k.toNat then c (some v) else c (mget pl (j : Int))) 64 := sumN_congr fun j hj => by
      have h2 : mget ((k, v) :: pl) (j : Int) = if k = (j : Int) then some v else mget pl (j : Int) := by
        unfold mget
        rw [List.find?_cons]
        by_cases e : k = (j : Int)
        · simp [e]
        · simp [e]
      rw [h2]
      by_cases e : k = (j : Int)
      · rw [if_pos e, if_pos (by omega)]
      · rw [if_neg e, if_neg (by omega)]
    rw [e, List.map_cons, List.sum_cons, ih]
    rw [show ((k.toNat : Nat) : Int) = k by omega, hnk, hc] at h1
    show c (some v) + _ = _
    omega
def lenP (P : Int → Option Pg) : Nat := sumN (fun i => if (P (i : Int)).isSome then 1 else 0) 64
theorem len_pages {pl : List (Int × Pg)} (hn : MNodup pl) (h : SpIs w sp pm sb P) (he : ∀ i, mget pl i = P i) : pl.length = lenP P := by
  have h1 := sum_pages (fun o : Option Pg => if o.isSome then 1 else 0) rfl pl hn (fun p hp => h.dom p.1 p.2 (by rw [← he]; exact mget_mem hn hp))
  have h2 : (pl.map fun p => if (some p.2).isSome then 1 else 0).sum = pl.length := by
    clear h1 he hn
    induction pl with
    | nil => rfl
    | cons p pl ih => rw [List.map_cons, List.sum_cons, ih, List.length_cons]; simp; omega
  rw [← h2, h1]
  exact sumN_congr fun i _ => by rw [he]
theorem lenP_le (P : Int → Option Pg) : lenP P ≤ 64 := by
  have := sumN_max (c := fun i => if (P (i : Int)).isSome then 1 else 0) (m := 1) (k := 64) (fun i _ => by split <;> omega)
  exact this
set_option maxRecDepth 100000 in
/-- Left. -/
theorem vmLeft_is (h : StoreIs w s n t) : Calls Tryz.prog 27 #[.pointer (some ⟨s.sb, 0, none⟩)] w fun e w' => e = .returned (.int .i64 ((n : Int) - usedN t.R n)) ∧ w = w' := by
  have HL := hid (left_is h.pool (fun k hk => by have := h.good.len (by have := h.hn; omega) k hk; show (t.fr k).length ≤ 1000; omega))
  have c1 := h.c1
  have HE := hid h.left
  clear h
  go_enter Tryz.func27, Tryz.ntmps27
  go_wp2_with fail
  refine HL.out.mono ?_
  rintro e w1 ⟨rfl, rfl⟩
  go_wp2_with fail
  go_ret
  exact ⟨ret_int HE.out, rfl⟩
end
end Go.Proofs.YtiohpmcedfbcgabGreatDoor
/- Package vm: New, NewStore. Conditions: each theorem's own premises. -/
namespace Go.Proofs.YtiohpmcedfbcgabGreatDoor
open Go.RowKit
set_option linter.unusedVariables false

section
variable {w w' : World}
def NewStoreIs (n : Nat) (w : World) (e : Ending) (w' : World) : Prop :=
  ∃ (s : SB) (t : St), e = .returned (.tuple #[.pointer (some ⟨s.sb, 0, none⟩), .nilIface]) ∧ StoreIs w' s n t ∧ (∀ f, t.R f = 0) ∧ (∀ f k, t.m f k = 0) ∧ Turn (fun _ => False) w w' ∧ ∀ k, StFoot s t.vs k → w.heap.size ≤ k
set_option maxHeartbeats 1000000 in
set_option maxRecDepth 100000 in
theorem vmNewStore_is (n : Nat) (w : World) (h1 : 1 ≤ n) (h2 : n ≤ 256) : Calls Tryz.prog 9 #[.int .i64 n] w (NewStoreIs n w) := by
  have HN := hid (new_yes_nat n w h1 h2)
  go_enter Tryz.func9, Tryz.ntmps9
  go_wp2_with fail
  refine HN.out.mono ?_
  rintro e w1 ⟨mb, wb, rfl, hm, g1, g2, t1⟩
  have HM := hid hm
  have HT1 := hid t1
  have hz1 := t1.size
  clear hm t1 HN
  go_wp2_with fail
  refine (new_any (n : Int) _ (by omega) (by omega)).mono ?_
  rintro e w2 ⟨p, pmb, vs, fr, rfl, hp, hg, t2, hf⟩
  have HP := hid hp
  have HG := hid hg
  have HT2 := hid t2
  have HF := hid hf
  have hz2 := t2.size
  clear hp hg t2 hf
  have hmm := @run_makeMap Tryz.prog
  go_wp2_with fail
  go_ret2
  have hz : (w2.alloc (.map #[] 0)).heap.size = w2.heap.size + 1 := World.size_alloc _ _
  have TT : Turn (fun _ => False) w2 ((w2.alloc (.map #[] 0)).alloc (.cells #[.pointer (some ⟨mb, 0, none⟩), .pointer (some ⟨p, 0, none⟩), .map (some w2.heap.size)] 134)) := ((Turn.refl _ _).alloc _).alloc _
  have hlt := poolFoot_lt HP.out
  have hmlt := HM.out.lt_mb
  have hwlt := HM.out.lt_wb
  refine ⟨⟨w2.heap.size + 1, mb, wb, p, pmb, w2.heap.size⟩, ⟨vs, fr, [], [], fun _ _ => 0⟩, rfl, ⟨?_, ?_, ?_, (HM.out.turned HT2.out id id).turned TT id id, HP.out.turned TT (fun _ _ => id), HG.out, (MapIs.made w2).turned ((Turn.refl (fun _ => False) _).alloc _) id, fun _ => rfl, fun f k h => (by cases h), fun k hk => ?_, ?_⟩, fun _ => rfl, fun _ _ => rfl, (HT1.out.trans HT2.out).trans TT, fun k hk => ?_⟩
  · rw [← hz]; exact World.cell?_alloc_new _ _ _ _
  · rw [← hz]; exact World.cell?_alloc_new _ _ _ _
  · rw [← hz]; exact World.cell?_alloc_new _ _ _ _
  · have h3 := hlt k hk
    have h4 := HF.out k hk
    exact ⟨by simp only; omega, by simp only; omega, by simp only; omega, by simp only; omega⟩
  · exact ⟨by simp only; omega, by simp only; omega, by simp only; omega, by simp only; omega, by simp only; omega⟩
  · rcases hk with hk | hk | hk | hk | hk
    · rw [hk]; simp only; omega
    · rw [hk]; simp only; omega
    · rw [hk]; exact g1
    · rw [hk]; exact g2
    · exact Nat.le_trans hz1 (HF.out k hk)
theorem memNew_no (n : Int) (w : World) (h : n < 1 ∨ 256 < n) : Calls Tryz.prog 55 #[.int .i64 n] w fun e w' => e = .returned (.tuple #[.pointer none, .iface 28 (.int .i64 2)]) ∧ w = w' := by
  rcases h with h | h
  · go_enter Tryz.func55, Tryz.ntmps55
    go_wp2
    go_ret2
    exact ⟨rfl, rfl⟩
  · have h1 : ¬ n < 1 := by omega
    go_enter Tryz.func55, Tryz.ntmps55
    go_wp2
    go_ret2
    exact ⟨rfl, rfl⟩
set_option maxRecDepth 100000 in
theorem vmNewStore_no (n : Int) (w : World) (h : n < 1 ∨ 256 < n) : Calls Tryz.prog 9 #[.int .i64 n] w fun e w' => e = .returned (.tuple #[.pointer none, .iface 28 (.int .i64 2)]) ∧ w = w' := by
  have HN := hid (memNew_no n w h)
  go_enter Tryz.func9, Tryz.ntmps9
  go_wp2_with fail
  refine HN.out.mono ?_
  rintro e w1 ⟨rfl, rfl⟩
  go_wp2_with fail
  go_ret2
  exact ⟨rfl, rfl⟩
theorem vmNew_none (w : World) : Calls Tryz.prog 10 #[.pointer none] w fun e w' => e = .returned (.tuple #[.pointer none, .iface 28 (.int .i64 7)]) ∧ w = w' := by
  go_enter Tryz.func10, Tryz.ntmps10
  go_wp2_with fail
  go_ret2
  exact ⟨rfl, rfl⟩
def noP : Int → Option Pg := fun _ => none
def NewSpaceIs (sb : Nat) (w : World) (e : Ending) (w' : World) : Prop :=
  ∃ sp pm, e = .returned (.tuple #[.pointer (some ⟨sp, 0, none⟩), .nilIface]) ∧ SpIs w' sp pm sb noP ∧ Turn (fun _ => False) w w' ∧ w.heap.size ≤ sp ∧ w.heap.size ≤ pm
set_option maxRecDepth 100000 in
theorem vmNew_is (sb : Nat) (w : World) : Calls Tryz.prog 10 #[.pointer (some ⟨sb, 0, none⟩)] w (NewSpaceIs sb w) := by
  have hmm := @run_makeMap Tryz.prog
  go_enter Tryz.func10, Tryz.ntmps10
  go_wp2_with fail
  go_ret2
  have T1 : Turn (fun _ => False) (w.alloc (.map #[] 0)) ((w.alloc (.map #[] 0)).alloc (.cells #[.pointer (some ⟨sb, 0, none⟩), .map (some w.heap.size)] 137)) := (Turn.refl _ _).alloc _
  refine ⟨w.heap.size + 1, w.heap.size, by simp, ⟨by simp, by simp, ⟨[], (MapIs.made w).turned T1 id, fun i => rfl⟩, by omega, fun i p h => (by cases h), fun i p h => (by cases h)⟩, ((Turn.refl _ _).alloc _).alloc _, by omega, by omega⟩
end
end Go.Proofs.YtiohpmcedfbcgabGreatDoor
/- Package vm: Len. Conditions: each theorem's own premises. -/
namespace Go.Proofs.YtiohpmcedfbcgabGreatDoor
open Go.RowKit
set_option linter.unusedVariables false

section
variable {w : World} {sp pm sb : Nat} {P : Int → Option Pg}
set_option maxRecDepth 100000 in
/-- Len. -/
theorem vmLen_is (h : SpIs w sp pm sb P) : Calls Tryz.prog 24 #[.pointer (some ⟨sp, 0, none⟩)] w fun e w' => e = .returned (.int .i64 (lenP P)) ∧ w = w' := by
  obtain ⟨pl, hp, he⟩ := h.pages
  have c1 := h.c1
  have hlen := len_pages hp.nodup h he
  have hl : ∀ ty, (Builtin.len_ #[135] ty #[.map (some pm)]).run Tryz.prog w = .ok (.int .i64 (lenP P)) w := fun ty => by rw [← hlen]; exact hp.run_len Tryz.underlying135 ty
  have hle := lenP_le P
  clear he hp h hlen
  go_enter Tryz.func24, Tryz.ntmps24
  go_wp2_with fail
  go_ret
  exact ⟨rfl, rfl⟩
end
end Go.Proofs.YtiohpmcedfbcgabGreatDoor
