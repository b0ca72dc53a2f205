/- ProcParents walked: true, and nothing that was there turns. Conditions: the argument lies in memory as a slice of doings; errors.errorType is laid. -/
import Derived.Test.YtiohpmcedfbcgabDoorProcLife
import Derived.Test.YtiohpmcedfbcgabDoorProcOne
import Derived.Test.YtiohpmcedfbcgabDoorTell
import Derived.Deep.LoopGhost
namespace Go.Proofs.YtiohpmcedfbcgabDoor
open Go.RowKit
set_option linter.unusedVariables false

set_option maxRecDepth 100000 in
theorem parents_many (a : Option Addr) (n cap : Nat) (w : World) (h : 60 < n) (hm : n ≤ 9223372036854775807) :
    Calls Tryd.prog 6 #[.slice a n cap] w fun e w' => e = .returned (.bool true) ∧ Turn (fun _ => False) w w' := by
  have h' : (60 : Int) < n := by omega
  go_enter Tryd.func6, Tryd.ntmps6
  go_wp2_with fail
  all_goals go_ret
  all_goals exact ⟨rfl, Turn.refl _ _⟩

theorem ints_slice {w : World} {v : Value} {xs : List Int} (h : IntsAt w v xs) : ∃ a cap, v = .slice a xs.length cap := by
  rcases h.shape with ⟨rfl, rfl⟩ | ⟨g, cap, rfl, _⟩
  · exact ⟨none, 0, rfl⟩
  · exact ⟨_, cap, rfl⟩
/-- All but 1 are dead, and 1's. -/
structure AllOne (l : List (Int × Nat)) (f : Nat → Pr) : Prop where
  kin : Kin l f
  dead : ∀ t ∈ l, t.1 ≠ 1 → (f t.2).state = 2 ∧ (f t.2).parent = 1
theorem parR_of {l : List (Int × Nat)} {f : Nat → Pr} (h : Kin l f) {k : Int} {b : Nat} (hb : mget l k = some b) : parR l f k = (f b).parent := by unfold parR; rw [hb]; rfl
theorem AllOne.par {l : List (Int × Nat)} {f : Nat → Pr} (h : AllOne l f) {k : Int} (hk : k ∈ l.map (·.1)) : parR l f k = if k = 1 then 0 else 1 := by
  obtain ⟨b, hb⟩ := mget_of_key hk
  rw [parR_of h.kin hb]
  split
  · subst k
    obtain ⟨b1, h1, _, h3⟩ := h.kin.one
    rw [hb] at h1
    cases h1
    exact h3
  · exact (h.dead _ (mem_of_mget hb) ‹_›).2
theorem AllOne.own {l : List (Int × Nat)} {f : Nat → Pr} (h : AllOne l f) {k : Int} : k ∈ ownOf l f 1 ↔ k ∈ l.map (·.1) ∧ k ≠ 1 := by
  unfold ownOf
  rw [List.mem_filter, mem_pidsOf]
  constructor
  · rintro ⟨h1, h2⟩
    refine ⟨h1, fun e => ?_⟩
    rw [h.par h1, if_pos e] at h2
    simp at h2
  · rintro ⟨h1, h2⟩
    refine ⟨h1, ?_⟩
    rw [h.par h1, if_neg h2]
    simp
theorem AllOne.st {l : List (Int × Nat)} {f : Nat → Pr} (h : AllOne l f) {k : Int} (hk : k ∈ l.map (·.1)) (h1 : k ≠ 1) : stR l f k = 2 := by
  obtain ⟨b, hb⟩ := mget_of_key hk
  unfold stR
  rw [hb]
  exact (h.dead _ (mem_of_mget hb) h1).1
theorem Kin.two {l : List (Int × Nat)} {f : Nat → Pr} (h : Kin l f) (hl : 2 ≤ l.length) : ∃ k, k ∈ l.map (·.1) ∧ k ≠ 1 := by
  have hn := h.nd
  unfold MNodup at hn
  match l, hl, hn with
  | a :: b :: r, _, hn =>
    simp only [List.map_cons, List.nodup_cons, List.mem_cons, not_or] at hn
    by_cases e : a.1 = 1
    · exact ⟨b.1, by simp, fun e2 => hn.1.1 (e.trans e2.symm)⟩
    · exact ⟨a.1, by simp, e⟩
theorem Kin.one_only {l : List (Int × Nat)} {f : Nat → Pr} (h : Kin l f) (hl : l.length = 1) {k : Int} (hk : k ∈ l.map (·.1)) : k = 1 := by
  obtain ⟨b, h1, _⟩ := h.one
  have h2 := mem_of_mget h1
  match l, hl, hk, h2 with
  | [a], _, hk, h2 =>
    simp at hk h2
    rw [hk, ← h2]
theorem pidsOf_sorted (l : List (Int × Nat)) : (pidsOf l).Pairwise (fun x y => x ≤ y) := by
  unfold pidsOf
  have tr : ∀ a b c : Int, decide (a ≤ b) = true → decide (b ≤ c) = true → decide (a ≤ c) = true := fun a b c h1 h2 => by simp only [decide_eq_true_eq] at *; omega
  have tot : ∀ a b : Int, (decide (a ≤ b) || decide (b ≤ a)) = true := fun a b => by simp only [Bool.or_eq_true, decide_eq_true_eq]; omega
  exact (List.pairwise_mergeSort tr tot (l.map (·.1))).imp (fun h => of_decide_eq_true h)
theorem own_sorted (l : List (Int × Nat)) (f : Nat → Pr) (pid : Int) : (ownOf l f pid).Pairwise (fun x y => x ≤ y) := (pidsOf_sorted l).filter _
theorem AllOne.del {l : List (Int × Nat)} {f : Nat → Pr} (h : AllOne l f) {k : Int} {b : Nat} (hb : mget l k = some b) (hs : (f b).state = 2) : AllOne (mdel l k) f :=
  ⟨h.kin.del hb hs, fun t ht => h.dead t (List.mem_filter.1 ht).1⟩
/-- Who waits as 1 takes the least: what Wait answers, where all but 1 are dead. -/
def TookOne (tb mb : Nat) (l : List (Int × Nat)) (f : Nat → Pr) (w : World) (e : Ending) (w' : World) : Prop :=
  ∃ (k c : Int), e = .returned (.tuple #[.int .i64 k, .int .i64 c, .nilIface]) ∧ k ∈ l.map (·.1) ∧ k ≠ 1 ∧ (∀ q ∈ l.map (·.1), q ≠ 1 → k ≤ q) ∧ TabIs w' tb mb (mdel l k) f ∧ AllOne (mdel l k) f ∧ (mdel l k).length + 1 = l.length ∧ Turn (fun j => j = mb) w w'
theorem wait_one {w : World} {tb mb : Nat} {l : List (Int × Nat)} {f : Nat → Pr} (h : TabIs w tb mb l f) (ha : AllOne l f) (hl : 2 ≤ l.length) :
    Calls Tryd.prog 36 #[.pointer (some ⟨tb, 0, none⟩), .int .i64 1] w (TookOne tb mb l f w) := by
  obtain ⟨k0, hk0, hk1⟩ := ha.kin.two hl
  have hm0 := ha.own.2 ⟨hk0, hk1⟩
  refine (wait_runs h 1 ha.kin.runs1 ha.kin.wf (by have := ha.kin.len; omega)).mono ?_
  rintro e w' (⟨h0, _, _⟩ | ⟨_, h0, _, _⟩ | ⟨j, k, b, hj, hno, hb, hs, rfl, hT, t⟩)
  · rw [h0] at hm0; cases hm0
  · exact absurd (ha.st hk0 hk1) (h0 k0 hm0)
  · have hj0 : j = 0 := by
      rcases Nat.eq_zero_or_pos j with h | h
      · exact h
      · exfalso
        obtain ⟨y, hy⟩ : ∃ y, (ownOf l f 1)[0]? = some y := ⟨_, List.getElem?_eq_getElem (by have := (List.getElem?_eq_some_iff.1 hj).1; omega)⟩
        have hym : y ∈ (ownOf l f 1).take j := List.mem_of_getElem? (i := 0) (by rw [List.getElem?_take, if_pos h]; exact hy)
        obtain ⟨y1, y2⟩ := ha.own.1 (List.mem_of_getElem? hy)
        exact hno y hym (ha.st y1 y2)
    subst hj0
    obtain ⟨k1, k2⟩ := ha.own.1 (List.mem_of_getElem? hj)
    refine ⟨k, _, rfl, k1, k2, fun q hq hq1 => ?_, hT, ha.del hb hs, mdel_length ha.kin.nd hb, t⟩
    have hqm := ha.own.2 ⟨hq, hq1⟩
    have hsrt := own_sorted l f 1
    cases e : ownOf l f 1 with
    | nil => rw [e] at hj; simp at hj
    | cons x r =>
      rw [e] at hj hqm hsrt
      simp at hj
      subst hj
      rcases List.mem_cons.1 hqm with rfl | hqm
      · exact Int.le_refl _
      · exact (List.pairwise_cons.1 hsrt).1 q hqm
theorem wait_nobody {w : World} {tb mb : Nat} {l : List (Int × Nat)} {f : Nat → Pr} (h : TabIs w tb mb l f) (ha : AllOne l f) (hl : l.length = 1) :
    Calls Tryd.prog 36 #[.pointer (some ⟨tb, 0, none⟩), .int .i64 1] w fun e w' => e = .returned (.tuple #[.int .i64 0, .int .i64 0, .iface 40 (.int .i64 8)]) ∧ Turn (fun _ => False) w w' := by
  have hno : ∀ k ∈ ownOf l f 1, False := fun k hk => by
    obtain ⟨h1, h2⟩ := ha.own.1 hk
    exact h2 (ha.kin.one_only hl h1)
  refine (wait_runs h 1 ha.kin.runs1 ha.kin.wf (by have := ha.kin.len; omega)).mono ?_
  rintro e w' (⟨_, rfl, t⟩ | ⟨h0, _, _, _⟩ | ⟨j, k, b, hj, _, _, _, _, _, _⟩)
  · exact ⟨rfl, t⟩
  · exact absurd (List.eq_nil_iff_forall_not_mem.2 (fun k hk => hno k hk)) h0
  · exact (hno k (List.mem_of_getElem? hj)).elim

/-- A slice of doings, each of three ints. -/
def LivesAt (W : World) (a : Option Addr) (xs : List (Int × Int × Int)) : Prop := xs ≠ [] → ∃ b off, a = some ⟨b, off, none⟩ ∧ b < W.heap.size ∧ ∀ j x, xs[j]? = some x → W.cell? ⟨b, off + j * 3, none⟩ = some (.int .i64 x.1) ∧ W.cell? ⟨b, off + j * 3 + 1, none⟩ = some (.int .i64 x.2.1) ∧ W.cell? ⟨b, off + j * 3 + 2, none⟩ = some (.int .i64 x.2.2)
/-- The table as the law has it: in what is new since W. -/
def Fam (W : World) (tb mb : Nat) (w : World) : Prop := ∃ l f, TabIs w tb mb l f ∧ Kin l f ∧ ∀ k, TFoot tb mb l k → W.heap.size ≤ k

set_option maxHeartbeats 40000000 in
set_option maxRecDepth 100000 in
theorem parents_few (a : Option Addr) (xs : List (Int × Int × Int)) (cap : Nat) (W : World) (hg : Laid W) (hl : xs.length ≤ 60) (hc : LivesAt W a xs) :
    Calls Tryd.prog 6 #[.slice a xs.length cap] W fun e w' => e = .returned (.bool true) ∧ Turn (fun _ => False) W w' := by
  have HC := hid hc
  have HG := hid hg
  have hl' : (xs.length : Int) ≤ 60 := by omega
  clear hc hg
  go_enter Tryd.func6, Tryd.ntmps6
  go_wp2_with fail
  refine (forked_any W).mono ?_
  rintro e w1 ⟨rfl, t1⟩
  have HT1 := hid t1
  clear t1
  go_wp2_with fail
  refine (proc_new w1).mono ?_
  rintro e w2 ⟨tb, mb, b, rfl, hT, t2, hF⟩
  have HT2 := hid (HT1.out.trans t2)
  have HFam : Hid (Fam W tb mb w2) := hid ⟨_, _, hT, ⟨by simp, by simp, by simp [MNodup], by simp, ⟨b, by simp [mget], rfl, rfl⟩, by simp, by simp [init], fun t ht => ⟨0, 0, rfl, rfl, by decide, by decide⟩⟩, fun k hk => Nat.le_trans HT1.out.size (hF k hk)⟩
  clear hT t2 hF HT1
  go_wp2_with fail
  go_loopw [4] (fun i wr => ∃ (j : Nat), j ≤ xs.length ∧ i = .int .i64 j ∧ Hid (Fam W tb mb wr) ∧ Hid (Turn (fun _ => False) W wr)) (fun i _ => xs.length - (intOf i).toNat)
  case atStart => exact ⟨0, Nat.zero_le _, rfl, HFam, HT2⟩
  case round =>
    clear HFam HT2
    obtain ⟨j, hj, rfl, hFam, hT⟩ := hrel
    obtain ⟨l, f, hTab, hK, hF⟩ := hFam.out
    have HTab := hid hTab
    have HK := hid hK
    have HF := hid hF
    clear hTab hK hF hFam
    by_cases hlt : j < xs.length
    · obtain ⟨x, hx⟩ : ∃ x, xs[j]? = some x := ⟨_, List.getElem?_eq_getElem hlt⟩
      obtain ⟨ba, off, rfl, hba, hcell⟩ := HC.out (fun e => by rw [e] at hlt; exact absurd hlt (Nat.not_lt_zero _))
      have HCell := hid (hcell j x hx)
      clear hcell hx
      go_wp2_with fail
      refine (pids_at HTab.out HK.out.wf (by have := HK.out.len; omega)).mono ?_
      rintro e w5 ⟨v1, rfl, hi1, ho1, t1⟩
      obtain ⟨c0, c1, c2⟩ := HCell.out
      have tt := hT.out.trans t1
      have k0 := (tt.cell (a := ⟨ba, off + j * 3, none⟩) hba id).trans c0
      have k1 := (tt.cell (a := ⟨ba, off + j * 3 + 1, none⟩) hba id).trans c1
      have k2 := (tt.cell (a := ⟨ba, off + j * 3 + 2, none⟩) hba id).trans c2
      have HT5 := hid tt
      have HTab5 := hid (HTab.out.turned t1 (fun _ _ => id))
      have HI1 := hid hi1
      have HO1 := hid ho1
      have HSz := hid t1.size
      clear hi1 ho1 t1 tt c0 c1 c2
      -- MARK
      go_wp2_with fail
      refine (life_any HTab5.out HK.out x.1 x.2.1 x.2.2).mono ?_
      rintro e w6 ⟨v, rfl, l2, f2, hv, hTab2, hK2, t6, hF2⟩
      have hT6 := HT5.out.trans' t6 (fun k hk e => by have := HF.out k e; omega)
      have HI6 := hid (HI1.out.turned t6 (fun g hg hk => by have h1 := HO1.out g hg; have h2 := HTab.out.foot_lt g hk; omega))
      have HT6 := hid hT6
      have HF6 : Hid (∀ k, TFoot tb mb l2 k → W.heap.size ≤ k) := hid (fun k hk => by
        rcases hF2 k hk with h | h
        · exact HF.out k h
        · exact Nat.le_trans HT5.out.size h)
      have HTab6 := hid hTab2
      have HK6 := hid hK2
      have HV := hid hv
      clear hv hTab2 hK2 t6 hF2 hT6 HT5 HTab5 HI1 k0 k1 k2 HF HTab
      go_wp2_with fail
      refine (pids_at HTab6.out HK6.out.wf (by have := HK6.out.len; omega)).mono ?_
      rintro e w7 ⟨v2, rfl, hi2, ho2, t7⟩
      have HT7 := hid (HT6.out.trans t7)
      have HTab7 := hid (HTab6.out.turned t7 (fun _ _ => id))
      have HI7 := hid (HI6.out.turned t7 (fun _ _ => id))
      clear t7 ho2 HT6 HTab6 HI6
      obtain ⟨pids, hpids⟩ : ∃ pids, pidsOf l2 = pids := ⟨_, rfl⟩
      rw [hpids] at hi2
      have hpl : pids.length ≤ 24 := by rw [← hpids, pidsOf_length]; exact HK6.out.len
      have hpl' : (pids.length : Int) ≤ 24 := by omega
      have hpn : ¬ (24 : Int) < pids.length := by omega
      have HMem : Hid (∀ k, k ∈ pids → k ∈ l2.map (·.1)) := hid (fun k hk => by rw [← hpids] at hk; exact mem_pidsOf.1 hk)
      have HOne : Hid ((1 : Int) ∈ pids) := hid (by
        rw [← hpids]
        obtain ⟨b1, h1, _⟩ := HK6.out.one
        exact mem_pidsOf.2 (List.mem_map.2 ⟨_, mem_of_mget h1, rfl⟩))
      have HPids := hid hpids
      obtain ⟨ga, gc, rfl⟩ := ints_slice hi2
      have HI2 := hid hi2
      clear hi2 hpids
      rcases HV.out with rfl | ⟨⟨c, rfl⟩, hl2⟩
      · go_wp2_with fail
        refine (contains_yes HI2.out 1 (by omega) HOne.out).mono ?_
        rintro e w8 ⟨rfl, rfl⟩
        go_wp2_with fail
        refine (runs_yes HTab7.out 1 HK6.out.runs1).mono ?_
        rintro e w8 ⟨rfl, rfl⟩
        go_wp2_with fail
        go_loop [8] (fun i => ∃ (m : Nat), m ≤ pids.length ∧ i = .int .i64 m) (fun i => pids.length - (intOf i).toNat)
        case atStart => exact ⟨0, Nat.zero_le _, rfl⟩
        case round =>
          obtain ⟨m, hm, rfl⟩ := hrel
          by_cases hlm : m < pids.length
          · have hlm' : (m : Int) < pids.length := by omega
            obtain ⟨p, hp⟩ : ∃ p, pids[m]? = some p := ⟨_, List.getElem?_eq_getElem hlm⟩
            obtain ⟨g, rfl⟩ : ∃ g, ga = some ⟨g, 0, none⟩ := by
              rcases HI2.out.shape with ⟨_, h0⟩ | ⟨g, cap', h0, _⟩
              · rw [h0] at hlm; simp at hlm
              · cases h0; exact ⟨g, rfl⟩
            have hcp := HI2.out.cell m p hp
            obtain ⟨bp, hbp⟩ := mget_of_key (HMem.out p (List.mem_of_getElem? hp))
            clear hp
            by_cases hp1 : p = 1
            · subst hp1
              have hpar := parent_is HTab7.out 1
              have hpv : ((mget l2 1).elim 0 fun b => (f2 b).parent) = 0 := by
                obtain ⟨b1, h1, _, h3⟩ := HK6.out.one
                rw [h1]
                exact h3
              rw [hpv] at hpar
              have HPar := hid hpar
              clear hpar hpv hbp
              go_wp2_with fail
              refine HPar.out.mono ?_
              rintro e w8 ⟨rfl, rfl⟩
              go_wp2_with fail
              go_round
              case rel => exact ⟨m + 1, by omega, by go_num⟩
              case measure => simp [intOf]; omega
            · have hb1 : (p == 1) = false := beq_eq_false_iff_ne.2 hp1
              have hb2 : (p != 1) = true := bne_iff_ne.2 hp1
              have hpar := parent_is HTab7.out p
              rw [hbp] at hpar
              simp only [Option.elim] at hpar
              have hrun : RunsIn l2 f2 (f2 bp).parent := HK6.out.par _ (mem_of_mget hbp) hp1
              have HRun := hid (runs_yes HTab7.out _ hrun)
              have HPar := hid hpar
              clear hpar hrun hbp hp1
              go_wp2_with fail
              refine HPar.out.mono ?_
              rintro e w8 ⟨rfl, rfl⟩
              go_wp2_with fail
              refine HRun.out.mono ?_
              rintro e w8 ⟨rfl, rfl⟩
              go_wp2_with fail
              go_round
              case rel => exact ⟨m + 1, by omega, by go_num⟩
              case measure => simp [intOf]; omega
          · have hlm' : ¬ (m : Int) < pids.length := by omega
            go_wp2_with fail
            go_roundw
            case rel => exact ⟨j + 1, by omega, by go_num, hid ⟨l2, f2, HTab7.out, HK6.out, HF6.out⟩, hid HT7.out⟩
            case measure => simp [intOf]; omega
      · subst hl2
        have HEq := hid (equal_ints (xs := pids) (by omega) (by rw [← HPids.out]; exact HI7.out) HI2.out)
        go_wp2_with fail
        refine HEq.out.mono ?_
        rintro e w9 ⟨rfl, t9⟩
        have HTab9 := hid (HTab7.out.turned t9 (fun _ _ => id))
        have HI9 := hid (HI2.out.turned t9 (fun _ _ => id))
        have HT9 := hid (HT7.out.trans t9)
        clear t9 HEq HI7
        go_wp2_with fail
        refine (contains_yes HI9.out 1 (by omega) HOne.out).mono ?_
        rintro e w8 ⟨rfl, rfl⟩
        go_wp2_with fail
        refine (runs_yes HTab9.out 1 HK6.out.runs1).mono ?_
        rintro e w8 ⟨rfl, rfl⟩
        go_wp2_with fail
        go_loop [8] (fun i => ∃ (m : Nat), m ≤ pids.length ∧ i = .int .i64 m) (fun i => pids.length - (intOf i).toNat)
        case atStart => exact ⟨0, Nat.zero_le _, rfl⟩
        case round =>
          obtain ⟨m, hm, rfl⟩ := hrel
          by_cases hlm : m < pids.length
          · have hlm' : (m : Int) < pids.length := by omega
            obtain ⟨p, hp⟩ : ∃ p, pids[m]? = some p := ⟨_, List.getElem?_eq_getElem hlm⟩
            obtain ⟨g, rfl⟩ : ∃ g, ga = some ⟨g, 0, none⟩ := by
              rcases HI2.out.shape with ⟨_, h0⟩ | ⟨g, cap', h0, _⟩
              · rw [h0] at hlm; simp at hlm
              · cases h0; exact ⟨g, rfl⟩
            have hcp := HI9.out.cell m p hp
            obtain ⟨bp, hbp⟩ := mget_of_key (HMem.out p (List.mem_of_getElem? hp))
            clear hp
            by_cases hp1 : p = 1
            · subst hp1
              have hpar := parent_is HTab9.out 1
              have hpv : ((mget l2 1).elim 0 fun b => (f2 b).parent) = 0 := by
                obtain ⟨b1, h1, _, h3⟩ := HK6.out.one
                rw [h1]
                exact h3
              rw [hpv] at hpar
              have HPar := hid hpar
              clear hpar hpv hbp
              go_wp2_with fail
              refine HPar.out.mono ?_
              rintro e w8 ⟨rfl, rfl⟩
              go_wp2_with fail
              go_round
              case rel => exact ⟨m + 1, by omega, by go_num⟩
              case measure => simp [intOf]; omega
            · have hb1 : (p == 1) = false := beq_eq_false_iff_ne.2 hp1
              have hb2 : (p != 1) = true := bne_iff_ne.2 hp1
              have hpar := parent_is HTab9.out p
              rw [hbp] at hpar
              simp only [Option.elim] at hpar
              have hrun : RunsIn l2 f2 (f2 bp).parent := HK6.out.par _ (mem_of_mget hbp) hp1
              have HRun := hid (runs_yes HTab9.out _ hrun)
              have HPar := hid hpar
              clear hpar hrun hbp hp1
              go_wp2_with fail
              refine HPar.out.mono ?_
              rintro e w8 ⟨rfl, rfl⟩
              go_wp2_with fail
              refine HRun.out.mono ?_
              rintro e w8 ⟨rfl, rfl⟩
              go_wp2_with fail
              go_round
              case rel => exact ⟨m + 1, by omega, by go_num⟩
              case measure => simp [intOf]; omega
          · have hlm' : ¬ (m : Int) < pids.length := by omega
            go_wp2_with fail
            go_roundw
            case rel => exact ⟨j + 1, by omega, by go_num, hid ⟨l2, f2, HTab9.out, HK6.out, HF6.out⟩, hid HT9.out⟩
            case measure => simp [intOf]; omega
    · clear hj
      go_wp2_with fail
      refine (pids_at HTab.out HK.out.wf (by have := HK.out.len; omega)).mono ?_
      rintro e w5 ⟨v1, rfl, hi1, ho1, t1⟩
      obtain ⟨pids, hpids⟩ : ∃ pids, pidsOf l = pids := ⟨_, rfl⟩
      rw [hpids] at hi1
      have hpl0 : pids.length = l.length := by rw [← hpids, pidsOf_length]
      have hpl : pids.length ≤ 24 := by rw [hpl0]; exact HK.out.len
      have hpl' : (pids.length : Int) ≤ 24 := by omega
      have HMem : Hid (∀ k, k ∈ pids ↔ k ∈ l.map (·.1)) := hid (fun k => by rw [← hpids]; exact mem_pidsOf)
      have HT5 := hid (hT.out.trans t1)
      have HTab5 := hid (HTab.out.turned t1 (fun _ _ => id))
      obtain ⟨ga, gc, rfl⟩ := ints_slice hi1
      have HI5 := hid hi1
      have HOwn : Hid (∀ g, ga = some ⟨g, 0, none⟩ → ¬ TFoot tb mb l g) := hid (fun g hg hk => by
        have h1 := ho1 g (by rw [hg]; rfl)
        have h2 := HTab.out.foot_lt g hk
        omega)
      have HPl := hid hpl0
      have HPL1 : Hid (1 ≤ pids.length) := hid (by
        obtain ⟨b1, h1, _⟩ := HK.out.one
        have := List.length_pos_of_mem (mem_of_mget h1)
        omega)
      clear hi1 ho1 t1 hT HTab hpids hpl0
      go_wp2_with fail
      go_loopw [11] (fun i wr => ∃ (m : Nat) (g : Nat → Pr), m ≤ pids.length ∧ i = .int .i64 m ∧ Hid (TabIs wr tb mb l g) ∧ Hid (Kin l g) ∧ Hid (IntsAt wr (.slice ga pids.length gc) pids) ∧ Hid (∀ k ∈ pids.take m, k ≠ 1 → stR l g k = 2) ∧ Hid (Turn (fun _ => False) W wr)) (fun i _ => pids.length - (intOf i).toNat)
      case atStart => exact ⟨0, f, Nat.zero_le _, rfl, HTab5, HK, HI5, hid (fun k hk => by simp at hk), HT5⟩
      case round =>
        clear HTab5 HK HI5 HT5
        obtain ⟨m, g, hm, rfl, hTab, hK, hI, hD, hT⟩ := hrel
        by_cases hlm : m < pids.length
        · have hlm' : (m : Int) < pids.length := by omega
          obtain ⟨p, hp⟩ : ∃ p, pids[m]? = some p := ⟨_, List.getElem?_eq_getElem hlm⟩
          obtain ⟨gb, rfl⟩ : ∃ gb, ga = some ⟨gb, 0, none⟩ := by
            rcases hI.out.shape with ⟨_, h0⟩ | ⟨gb, cap', h0, _⟩
            · rw [h0] at hlm; simp at hlm
            · cases h0; exact ⟨gb, rfl⟩
          have hcp := hI.out.cell m p hp
          obtain ⟨bp, hbp⟩ := mget_of_key ((HMem.out p).1 (List.mem_of_getElem? hp))
          have HP := hid hp
          have HB := hid hbp
          clear hp hbp
          by_cases hp1 : p = 1
          · subst hp1
            go_wp2_with fail
            go_roundw
            case rel => exact ⟨m + 1, g, by omega, by go_num, hTab, hK, hI, hid (fun k hk hk1 => by
              rw [take_more HP.out] at hk
              rcases List.mem_append.1 hk with hk | hk
              · exact hD.out k hk hk1
              · exact absurd (List.mem_singleton.1 hk) hk1), hT⟩
            case measure => simp [intOf]; omega
          · have hb1 : (p != 1) = true := bne_iff_ne.2 hp1
            have HP1 := hid hp1
            by_cases hr : RunsIn l g p
            · have HRun := hid (runs_yes hTab.out p hr)
              have HEx := hid (exit_runs hTab.out p 0 bp hr HB.out hp1)
              have HK2 := hid (hK.out.exit HB.out hp1 0)
              clear hr hp1
              go_wp2_with fail
              refine HRun.out.mono ?_
              rintro e w8 ⟨rfl, rfl⟩
              go_wp2_with fail
              refine HEx.out.mono ?_
              rintro e w8 ⟨rfl, hT8, t8⟩
              have HTab8 := hid hT8
              have HI8 := hid (hI.out.turned t8 (fun g hg hk => HOwn.out g (by rw [Value.ownBlock, Option.some.injEq] at hg; rw [← hg]) (.inr (.inr hk))))
              have HT8 := hid (hT.out.trans' t8 (fun k hk e => by have := HF.out k (.inr (.inr e)); omega))
              clear hT8 t8
              go_wp2_with fail
              go_roundw
              case rel => exact ⟨m + 1, _, by omega, by go_num, HTab8, HK2, HI8, hid (fun k hk hk1 => by
                rw [stR_exit hK.out.inj HB.out]
                split
                · rfl
                · rename_i hne
                  rw [take_more HP.out] at hk
                  rcases List.mem_append.1 hk with hk | hk
                  · exact hD.out k hk hk1
                  · exact absurd (List.mem_singleton.1 hk) hne), HT8⟩
              case measure => simp [intOf]; omega
            · have HRun := hid (runs_no hTab.out p hr)
              have HSt : Hid (stR l g p = 2) := hid (by
                have h2 := hK.out.st _ (mem_of_mget HB.out)
                unfold RunsIn at hr
                unfold stR at hr ⊢
                rw [HB.out] at hr ⊢
                exact h2.resolve_left hr)
              clear hr hp1
              go_wp2_with fail
              refine HRun.out.mono ?_
              rintro e w8 ⟨rfl, rfl⟩
              go_wp2_with fail
              go_roundw
              case rel => exact ⟨m + 1, g, by omega, by go_num, hTab, hK, hI, hid (fun k hk hk1 => by
                rw [take_more HP.out] at hk
                rcases List.mem_append.1 hk with hk | hk
                · exact hD.out k hk hk1
                · rw [List.mem_singleton.1 hk]; exact HSt.out), hT⟩
              case measure => simp [intOf]; omega
        · have hlm' : ¬ (m : Int) < pids.length := by omega
          have HAll : Hid (AllOne l g) := hid ⟨hK.out, fun t ht h1 => by
            have hall : ∀ k, k ∈ l.map (·.1) → k ≠ 1 → stR l g k = 2 := fun k hk hk1 => hD.out k (by rw [List.take_of_length_le (by omega)]; exact (HMem.out k).2 hk) hk1
            have hst : stR l g t.1 = (g t.2).state := by
              unfold stR
              rw [mget_mem hK.out.nd (show (t.1, t.2) ∈ l from ht)]
              rfl
            refine ⟨by rw [← hst]; exact hall t.1 (List.mem_map.2 ⟨t, ht, rfl⟩) h1, ?_⟩
            have hp := hK.out.par t ht h1
            by_cases e : (g t.2).parent = 1
            · exact e
            · exfalso
              have hin : (g t.2).parent ∈ l.map (·.1) := by
                unfold stR at hp
                cases e2 : mget l (g t.2).parent with
                | none => rw [e2] at hp; cases hp
                | some b2 => exact List.mem_map.2 ⟨_, mem_of_mget e2, rfl⟩
              rw [hall _ hin e] at hp
              cases hp⟩
          clear hI hD hK HMem HOwn
          go_wp2_with fail
          go_loopw [13, 14] (fun la i wr => ∃ (m : Nat) (z : Int) (l2 : List (Int × Nat)), 1 ≤ m ∧ m ≤ pids.length ∧ i = .int .i64 m ∧ la = .int .i64 z ∧ Hid (TabIs wr tb mb l2 g) ∧ Hid (AllOne l2 g) ∧ Hid (l2.length + m = pids.length + 1) ∧ Hid (∀ k ∈ l2.map (·.1), k ≠ 1 → z < k) ∧ Hid (Turn (fun _ => False) W wr)) (fun _ i _ => pids.length - (intOf i).toNat)
          case atStart => exact ⟨1, 0, l, Nat.le_refl _, HPL1.out, rfl, rfl, hTab, HAll, hid (by rw [HPl.out]), hid (fun k hk _ => by
            obtain ⟨t, ht, rfl⟩ := List.mem_map.1 hk
            have := HAll.out.kin.rng t ht
            omega), hT⟩
          case round =>
            clear hTab HAll hT
            obtain ⟨m, z, l2, hm1, hm, rfl, rfl, hTab, hA, hLen, hZ, hT⟩ := hrel
            by_cases hlm : m < pids.length
            · have hlm' : (m : Int) < pids.length := by omega
              go_wp2_with fail
              refine (wait_one hTab.out hA.out (by have := hLen.out; omega)).mono ?_
              rintro e w8 ⟨k, c, rfl, hk, hk1, hleast, hTab8, hA8, hlen8, t8⟩
              have hzk : z < k := hZ.out k hk hk1
              have hzk' : ¬ k ≤ z := by omega
              have HZ8 : Hid (∀ q ∈ (mdel l2 k).map (·.1), q ≠ 1 → k < q) := hid (fun q hq hq1 => by
                obtain ⟨t, ht, rfl⟩ := List.mem_map.1 hq
                obtain ⟨h1, h2⟩ := List.mem_filter.1 ht
                have := hleast t.1 (List.mem_map.2 ⟨t, h1, rfl⟩) hq1
                have := of_decide_eq_true h2
                omega)
              have HTab8 := hid hTab8
              have HA8 := hid hA8
              have HLen8 : Hid ((mdel l2 k).length + (m + 1) = pids.length + 1) := hid (by have := hLen.out; omega)
              have HT8 := hid (hT.out.trans' t8 (fun k hk e => by have := HF.out mb (.inr (.inl rfl)); omega))
              clear hk hk1 hleast hTab8 hA8 hlen8 t8
              go_wp2_with fail
              go_roundw
              case rel => exact ⟨m + 1, k, _, by omega, by omega, by go_num, rfl, HTab8, HA8, HLen8, HZ8, HT8⟩
              case measure => simp [intOf]; omega
            · have hlm' : ¬ (m : Int) < pids.length := by omega
              have hl1 : l2.length = 1 := by have := hLen.out; omega
              have HL1 := hid hl1
              clear hl1
              go_wp2_with fail
              refine (wait_nobody hTab.out hA.out HL1.out).mono ?_
              rintro e w8 ⟨rfl, t8⟩
              have HT8 := hid (hT.out.trans t8)
              have HTab8 := hid (hTab.out.turned t8 (fun _ _ => id))
              clear t8
              go_wp2_with fail
              refine (tell_errno 8 _ (HG.out.turned0 HT8.out)).mono ?_
              rintro e w9 ⟨rfl, t9⟩
              have HT9 := hid (HT8.out.trans t9)
              have HTab9 := hid (HTab8.out.turned t9 (fun _ _ => id))
              clear t9
              go_wp2_with fail
              refine (pids_at HTab9.out hA.out.kin.wf (by have := hA.out.kin.len; omega)).mono ?_
              rintro e w10 ⟨v10, rfl, hi10, ho10, t10⟩
              have hp1 : (pidsOf l2).length = 1 := by rw [pidsOf_length]; exact HL1.out
              obtain ⟨ga2, gc2, rfl⟩ := ints_slice hi10
              rw [hp1]
              have HT10 := hid (HT9.out.trans t10)
              clear hi10 ho10 t10 hp1
              go_wp2_with fail
              go_ret
              exact ⟨rfl, HT10.out⟩
end Go.Proofs.YtiohpmcedfbcgabDoor
