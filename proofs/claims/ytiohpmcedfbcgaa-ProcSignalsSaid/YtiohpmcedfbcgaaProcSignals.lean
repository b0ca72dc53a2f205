/- ProcSignals walked: true, and nothing that was there turns. Conditions: the arguments lie in memory as slices of ints. -/
import Derived.Test.YtiohpmcedfbcgaaProcOne
import Derived.Test.YtiohpmcedfbcgaaPick
import Derived.Deep.LoopGhost
namespace Go.Proofs.Ytiohpmcedfbcgaa
open Go.RowKit
set_option linter.unusedVariables false

set_option maxRecDepth 100000 in
theorem signals_many (a1 a2 : Option Addr) (n1 n2 c1 c2 : Nat) (w : World) (h : 40 < n1 ∨ 40 < n2) (hm1 : n1 ≤ 9223372036854775807) (hm2 : n2 ≤ 9223372036854775807) :
    Calls Try.prog 7 #[.slice a1 n1 c1, .slice a2 n2 c2] w fun e w' => e = .returned (.bool true) ∧ Turn (fun _ => False) w w' := by
  by_cases h1 : 40 < n1
  · have h' : (40 : Int) < n1 := by omega
    clear h
    go_enter Try.func7, Try.ntmps7
    go_wp2_with fail
    all_goals go_ret
    all_goals exact ⟨rfl, Turn.refl _ _⟩
  · have h' : (40 : Int) < n2 := by omega
    have h1' : ¬ (40 : Int) < n1 := by omega
    clear h h1
    go_enter Try.func7, Try.ntmps7
    go_wp2_with fail
    all_goals go_ret
    all_goals exact ⟨rfl, Turn.refl _ _⟩

/-- The signal that a number stands for. -/
def sg (x : Int) : Nat := (1 + pk x 8).toNat
theorem sg_eq (x : Int) : 1 + pk x 8 = (sg x : Int) := by
  have := pk_nonneg x 8 (by decide)
  unfold sg
  omega
theorem sg_ge (x : Int) : 1 ≤ sg x := by have := pk_nonneg x 8 (by decide); unfold sg; omega
theorem sg_le (x : Int) : sg x ≤ 8 := by have := pk_lt x 8 (by decide); unfold sg; omega

def Ign (I : Nat) (xs : List Int) : Prop := ∀ t, 1 ≤ t → t ≤ 8 → I.testBit t = decide (t < 8 ∧ ∃ x ∈ xs, sg x = t)
theorem Ign.nil : Ign 0 [] := fun t _ _ => by simp
theorem Ign.step {I : Nat} {xs : List Int} {x : Int} (h : Ign I xs) (h7 : sg x < 8) : Ign (offR I (sg x) ||| 2 ^ sg x) (xs ++ [x]) := fun t h1 h8 => by
  rw [onR_bit, offR_bit h8, h t h1 h8]
  by_cases e : t = sg x
  · subst e
    simp [h7]
  · have e2 : ¬ sg x = t := fun h => e h.symm
    simp [e, e2]
theorem Ign.step8 {I : Nat} {xs : List Int} {x : Int} (h : Ign I xs) (h8' : sg x = 8) : Ign I (xs ++ [x]) := fun t h1 h8 => by
  rw [h t h1 h8]
  by_cases e : t < 8
  · have e2 : ¬ sg x = t := by omega
    simp [e2]
  · simp [e]
theorem off_zero {s : Nat} : offR 0 s = 0 := by unfold offR; rw [Nat.zero_and]

/-- What waits of 2, and what the law wants. -/
structure Wants (m : List (Int × Int)) (W I : Nat) : Prop where
  bit : ∀ t : Nat, 1 ≤ t → t ≤ 8 → W.testBit t = ((mget m (t : Int)).isSome && !I.testBit t)
  one : ∀ k v, mget m k = some v → v = 1
theorem Wants.nil {I : Nat} : Wants [] 0 I := ⟨fun t _ _ => by simp [mget], fun k v h => by simp [mget] at h⟩
theorem Wants.put {m : List (Int × Int)} {W I s : Nat} (h : Wants m W I) : Wants (mput m (s : Int) 1) (killR W I s) I := ⟨fun t h1 h8 => by
  rw [killR_bit, h.bit t h1 h8, mget_mput]
  by_cases e : t = s
  · subst e
    simp
  · have e2 : ¬ (t : Int) = (s : Int) := by omega
    rw [if_neg e2]
    simp [e], fun k v hk => by
  rw [mget_mput] at hk
  split at hk
  · cases hk; rfl
  · exact h.one k v hk⟩
theorem Wants.del {m : List (Int × Int)} {W I s : Nat} (h : Wants m W I) (hs : I.testBit s = true) : Wants (mdel m (s : Int)) W I := ⟨fun t h1 h8 => by
  rw [h.bit t h1 h8, mget_mdel]
  by_cases e : t = s
  · subst e; simp [hs]
  · have e2 : ¬ (t : Int) = (s : Int) := by omega
    rw [if_neg e2], fun k v hk => by
  rw [mget_mdel] at hk
  split at hk
  · cases hk
  · exact h.one k v hk⟩

theorem zero_bits : ∀ i, 1 ≤ i → i ≤ 8 → (0 : Nat).testBit i = false := fun i _ _ => by simp
theorem bits256 : ∀ i, 1 ≤ i → i < 8 → (256 : Nat).testBit i = false := fun i _ h8 => by
  have : ∀ i : Fin 8, Nat.testBit 256 i.val = false := by decide
  exact this ⟨i, h8⟩
/-- Two processes of a table: pid, that takes, and k, with no signal. -/
structure Both (w : World) (tb mb : Nat) (l : List (Int × Nat)) (pid : Int) (b W : Nat) (k : Int) (c I : Nat) : Prop where
  ex : ∃ f, TabIs w tb mb l f ∧ (f b).state = 1 ∧ (f b).waits = (W : Nat) ∧ (f c).state = 1 ∧ (f c).waits = ((0 : Nat) : Int) ∧ (f c).ignores = (I : Nat)
  w9 : W < 512
  i9 : I < 512
  g1 : mget l pid = some b
  g2 : mget l k = some c
  ne : b ≠ c
theorem both_take {w : World} {tb mb : Nat} {l : List (Int × Nat)} {pid : Int} {b W : Nat} {k : Int} {c I : Nat} (h : Both w tb mb l pid b W k c I) (hno : ∀ i, 1 ≤ i → i ≤ 8 → W.testBit i = false) :
    Calls Try.prog 32 #[.pointer (some ⟨tb, 0, none⟩), .int .i64 pid] w fun e w' => e = .returned (.int .i64 0) ∧ One w' tb mb l k c 0 I ∧ Turn (fun k => k = b) w w' := by
  obtain ⟨⟨f, hf, e1, e2, e3, e4, e5⟩, h9, i9, g1, g2, hne⟩ := h
  refine (take_runs hf pid b W (runs_of g1 e1) g1 e2 h9).mono ?_
  rintro e w' ⟨r, hr, rfl, ht, t⟩
  have := least_none hr hno
  subst this
  have hu : updP f b (takenR (f b) W 0) c = f c := updP_other _ _ (fun e => hne e.symm)
  exact ⟨rfl, ⟨⟨_, ht, by rw [hu]; exact e3, by rw [hu]; exact e4, by rw [hu]; exact e5⟩, g2, by decide, i9⟩, t⟩
theorem one_fork {w : World} {tb mb : Nat} {l : List (Int × Nat)} {pid : Int} {b W I : Nat} (h : One w tb mb l pid b W I) (hl : l.length < 24) :
    Calls Try.prog 29 #[.pointer (some ⟨tb, 0, none⟩), .int .i64 pid] w fun e w' => ∃ k c : Nat, e = .returned (.tuple #[.int .i64 k, .nilIface]) ∧ w.heap.size ≤ c ∧ Both w' tb mb (l ++ [((k : Int), c)]) pid b W k c I ∧ Turn (fun j => j = mb) w w' := by
  obtain ⟨⟨f, hf, e1, e2, e3⟩, hg, h9, i9⟩ := h
  refine (fork_runs hf pid b (runs_of hg e1) hg hl).mono ?_
  rintro e w' ⟨k, c, k1, k24, hn, hall, rfl, hc, hT, t⟩
  have hbl := (hf.pr _ (mem_of_mget hg)).lt
  simp only at hbl
  have hne : b ≠ c := by omega
  have hu : updP f c ⟨pid, 1, 0, 0, (f b).ignores⟩ b = f b := updP_other _ _ hne
  have hu2 : updP f c ⟨pid, 1, 0, 0, (f b).ignores⟩ c = ⟨pid, 1, 0, 0, (f b).ignores⟩ := updP_same _ _ _
  have hk : pid ≠ (k : Int) := fun e => by rw [e, hn] at hg; cases hg
  refine ⟨k, c, rfl, hc, ⟨⟨_, hT, by rw [hu]; exact e1, by rw [hu]; exact e2, by rw [hu2], by rw [hu2]; rfl, by rw [hu2]; exact e3⟩, h9, i9, ?_, ?_, hne⟩, t⟩
  · rw [← mput_new hn, mget_mput, if_neg hk]; exact hg
  · rw [← mput_new hn, mget_mput, if_pos rfl]

/-- The slice a of the numbers xs lies in memory. -/
def NumsAt (W : World) (a : Option Addr) (xs : List Int) : Prop := xs ≠ [] → ∃ b off, a = some ⟨b, off, none⟩ ∧ b < W.heap.size ∧ ∀ j x, xs[j]? = some x → W.cell? ⟨b, off + j, none⟩ = some (.int .i64 x)

set_option maxHeartbeats 40000000 in
set_option maxRecDepth 100000 in
theorem signals_few (a1 a2 : Option Addr) (sent ign : List Int) (c1 c2 : Nat) (W : World) (hl1 : sent.length ≤ 40) (hl2 : ign.length ≤ 40) (hc1 : NumsAt W a1 sent) (hc2 : NumsAt W a2 ign) :
    Calls Try.prog 7 #[.slice a1 sent.length c1, .slice a2 ign.length c2] W fun e w' => e = .returned (.bool true) ∧ Turn (fun _ => False) W w' := by
  have HC1 := hid hc1
  have HC2 := hid hc2
  have hl1' : (sent.length : Int) ≤ 40 := by omega
  have hl2' : (ign.length : Int) ≤ 40 := by omega
  have hmm := @run_makeMap Try.prog
  clear hc1 hc2
  go_enter Try.func7, Try.ntmps7
  go_wp2_with fail
  refine (forked_any W).mono ?_
  rintro e w1 ⟨rfl, t1⟩
  have HT1 := hid t1
  clear t1
  go_wp2_with fail
  refine (proc_new w1).mono ?_
  rintro e w2 ⟨tb, mb, b, rfl, hT, t2, hF⟩
  have HT := hid hT
  have HTu2 := hid (HT1.out.trans t2)
  have HF : Hid (∀ k, TFoot tb mb [((1 : Int), b)] k → W.heap.size ≤ k) := hid (fun k hk => Nat.le_trans HT1.out.size (hF k hk))
  clear hT t2 hF HT1
  go_wp2_with fail
  refine (fork_born HT.out).mono ?_
  rintro e w3 ⟨nb, f, rfl, hnb, hB, t3⟩
  have HT3 := hid (HTu2.out.trans' t3 (fun k hk e => by have := HF.out mb (.inr (.inl rfl)); omega))
  obtain ⟨l, hl⟩ : ∃ l, [((1 : Int), b), ((2 : Int), nb)] = l := ⟨_, rfl⟩
  have hg2 : mget l 2 = some nb := by rw [← hl]; simp [mget]
  have hll : l.length = 2 := by rw [← hl]; rfl
  have HOne : Hid (One w3 tb mb l 2 nb 0 0) := hid ⟨⟨f, by rw [← hl]; exact hB.1, by rw [hB.2.2.1], by rw [hB.2.2.1]; rfl, by rw [hB.2.2.1]; rfl⟩, hg2, by decide, by decide⟩
  have HFt : Hid (∀ k, TFoot tb mb l k → W.heap.size ≤ k) := hid (fun k hk => by
    rcases hk with rfl | rfl | hk
    · exact HF.out _ (.inl rfl)
    · exact HF.out _ (.inr (.inl rfl))
    · rw [← hl] at hk
      simp only [List.map_cons, List.map_nil, List.mem_cons, List.not_mem_nil, or_false] at hk
      rcases hk with rfl | rfl
      · exact HF.out _ (.inr (.inr (by simp)))
      · exact Nat.le_trans HTu2.out.size hnb)
  have HLl := hid hll
  have HG2 := hid hg2
  clear hB t3 hnb hl hg2 hll HF HT HTu2
  go_wp2_with fail
  have HFm : Hid (∀ k, TFoot tb mb l k → k < w3.heap.size) := hid (fun k hk => HOne.out.foot_lt k hk)
  have T4 : Turn (fun _ => False) w3 (w3.alloc (.map #[] 0)) := (Turn.refl _ _).alloc _
  have HOne4 := hid (HOne.out.turned T4 (fun _ _ => id))
  have HM4 : Hid (MapIs (w3.alloc (.map #[] 0)) w3.heap.size (.int .i64) encI (fun n : Int => Value.int .i64 n) ([] : List (Int × Int))) := hid (MapIs.made w3)
  have HT4 := hid (HT3.out.trans T4)
  have HMw : Hid (W.heap.size ≤ w3.heap.size) := hid HT3.out.size
  clear T4 HOne HT3
  obtain ⟨mw, hmw⟩ : ∃ mw, w3.heap.size = mw := ⟨_, rfl⟩
  rw [hmw] at HM4 HFm HMw
  rw [hmw]
  obtain ⟨w4, hw4⟩ : ∃ w4, w3.alloc (.map #[] 0) = w4 := ⟨_, rfl⟩
  rw [hw4] at HM4 HOne4 HT4
  rw [hw4]
  clear hmw hw4
  go_loopw [9] (fun i wr => ∃ (j I : Nat), j ≤ ign.length ∧ i = .int .i64 j ∧ Hid (Ign I (ign.take j)) ∧ Hid (One wr tb mb l 2 nb 0 I) ∧ Hid (MapIs wr mw (.int .i64) encI (fun n : Int => Value.int .i64 n) ([] : List (Int × Int))) ∧ Hid (Turn (fun _ => False) W wr)) (fun i _ => ign.length - (intOf i).toNat)
  case atStart => exact ⟨0, 0, Nat.zero_le _, rfl, hid Ign.nil, HOne4, HM4, HT4⟩
  case round =>
    clear HOne4 HM4 HT4
    obtain ⟨j, I, hj, rfl, hI, hO, hM, hT⟩ := hrel
    have hnb : W.heap.size ≤ nb := HFt.out nb (.inr (.inr (List.mem_map.2 ⟨_, mem_of_mget HG2.out, rfl⟩)))
    have hmwnb : nb < mw := HFm.out nb (.inr (.inr (List.mem_map.2 ⟨_, mem_of_mget HG2.out, rfl⟩)))
    have HNb := hid hnb
    have HMwNb := hid hmwnb
    clear hnb hmwnb
    by_cases hlt : j < ign.length
    · skip
      obtain ⟨x, hx⟩ : ∃ x, ign[j]? = some x := ⟨_, List.getElem?_eq_getElem hlt⟩
      obtain ⟨b2, offb2, rfl, hb2, hcell⟩ := HC2.out (fun e => by rw [e] at hlt; exact absurd hlt (Nat.not_lt_zero _))
      have hcx := (hT.out.cell (a := ⟨b2, offb2 + j, none⟩) hb2 id).trans (hcell j x hx)
      have hp0 := pk_nonneg x 8 (by decide)
      have hp1 := pk_lt x 8 (by decide)
      have HX := hid hx
      clear hx hcell
      go_wp2_with fail
      refine (pick_any x 8 wr (by decide) (by decide)).mono ?_
      rintro e w5 ⟨rfl, rfl⟩
      obtain ⟨s, hs⟩ : ∃ s, sg x = s := ⟨_, rfl⟩
      have hse : 1 + pk x 8 = (s : Int) := by rw [sg_eq, hs]
      have hs1 : 1 ≤ s := by rw [← hs]; exact sg_ge x
      have hs8 : s ≤ 8 := by rw [← hs]; exact sg_le x
      have HS := hid hs
      have HSE := hid hse
      clear hs hse hcx
      by_cases h7 : s < 8
      · have h7' : (s : Int) < 8 := by omega
        have HI6 : Hid (Ign (offR I s ||| 2 ^ s) (ign.take (j + 1))) := hid (by
          have := hI.out.step (x := x) (by rw [HS.out]; exact h7)
          rw [HS.out] at this
          rw [take_more HX.out]
          exact this)
        go_wp2_with fail
        rw [HSE.out]
        refine (one_ignore hO.out s hs1 (by omega)).mono ?_
        rintro e w6 ⟨rfl, hO6, t6⟩
        rw [off_zero] at hO6
        have HO6 := hid hO6
        have HM6 := hid (hM.out.turned t6 (fun e => by have := HMwNb.out; omega))
        have HT6 := hid (hT.out.trans' t6 (fun k hk e => by have := HNb.out; omega))
        clear hO6 t6
        go_wp2_with fail
        go_roundw
        case rel => exact ⟨j + 1, _, by omega, by go_num, HI6, HO6, HM6, HT6⟩
        case measure => simp [intOf]; omega
      · have hs88 : s = 8 := by omega
        subst hs88
        have HSE8 : Hid (1 + pk x 8 = 8) := hid HSE.out
        have HI6 : Hid (Ign I (ign.take (j + 1))) := hid (by
          rw [take_more HX.out]
          exact hI.out.step8 HS.out)
        go_wp2_with fail
        rw [HSE8.out]
        refine (one_last hO.out).mono ?_
        rintro e w6 ⟨rfl, rfl⟩
        go_wp2_with fail
        go_roundw
        case rel => exact ⟨j + 1, _, by omega, by go_num, HI6, hO, hM, hT⟩
        case measure => simp [intOf]; omega
    · have hjl : j = ign.length := by omega
      subst hjl
      have HI := hI.out
      rw [List.take_length] at HI
      have HI := hid HI
      clear hI
      go_wp2_with fail
      go_loopw [12] (fun i wr => ∃ (j Wn : Nat) (m : List (Int × Int)), j ≤ sent.length ∧ i = .int .i64 j ∧ Hid (Wants m Wn I) ∧ Hid (One wr tb mb l 2 nb Wn I) ∧ Hid (MapIs wr mw (.int .i64) encI (fun n : Int => Value.int .i64 n) m) ∧ Hid (Turn (fun _ => False) W wr)) (fun i _ => sent.length - (intOf i).toNat)
      case atStart => exact ⟨0, 0, [], Nat.zero_le _, rfl, hid Wants.nil, hO, hM, hT⟩
      case round =>
        clear hO hM hT
        obtain ⟨j, Wn, m, hj, rfl, hWn, hO, hM, hT⟩ := hrel
        by_cases hlt : j < sent.length
        · skip
          obtain ⟨x, hx⟩ : ∃ x, sent[j]? = some x := ⟨_, List.getElem?_eq_getElem hlt⟩
          obtain ⟨b1, offb1, rfl, hb1, hcell⟩ := HC1.out (fun e => by rw [e] at hlt; exact absurd hlt (Nat.not_lt_zero _))
          have hcx := (hT.out.cell (a := ⟨b1, offb1 + j, none⟩) hb1 id).trans (hcell j x hx)
          have hp0 := pk_nonneg x 8 (by decide)
          have hp1 := pk_lt x 8 (by decide)
          have HX := hid hx
          clear hx hcell
          go_wp2_with fail
          refine (pick_any x 8 wr (by decide) (by decide)).mono ?_
          rintro e w5 ⟨rfl, rfl⟩
          obtain ⟨s, hs⟩ : ∃ s, sg x = s := ⟨_, rfl⟩
          have hse : 1 + pk x 8 = (s : Int) := by rw [sg_eq, hs]
          have hs1 : 1 ≤ s := by rw [← hs]; exact sg_ge x
          have hs8 : s ≤ 8 := by rw [← hs]; exact sg_le x
          have HS := hid hs
          have HSE := hid hse
          clear hs hse hcx
          go_wp2_with fail
          rw [HSE.out]
          refine (one_kill hO.out s hs1 hs8).mono ?_
          rintro e w6 ⟨rfl, hO6, t6⟩
          have HO6 := hid hO6
          have HM6 := hid (hM.out.turned t6 (fun e => by have := HMwNb.out; omega))
          have HT6 := hid (hT.out.trans' t6 (fun k hk e => by have := HNb.out; omega))
          have HFt6 : Hid (∀ k, TFoot tb mb l k → ¬ k = mw) := hid (fun k hk e => by have := HFm.out k hk; omega)
          clear hO6 t6 hp0 hp1
          go_wp2_with (at_mapUpdate; refine wpList_mapput rfl _ _ _ 44 3 3 rfl Try.underlying44 Try.underlying3 keyI mw rfl HM6.out (s : Int) rfl 1 rfl ?_; intro w7 hm7 t7; have HM7 := hid hm7; have HT7 := hid t7; clear hm7 t7)
          go_roundw
          case rel => exact ⟨j + 1, _, _, by omega, by go_num, hid hWn.out.put, hid (HO6.out.turned HT7.out HFt6.out), HM7, hid (HT6.out.trans' HT7.out (fun k hk e => by have := HMw.out; omega))⟩
          case measure => simp [intOf]; omega
        · clear hj
          have HBit : Hid (∀ x ∈ ign, sg x < 8 → I.testBit (sg x) = true) := hid (fun x hx h => by
            rw [HI.out (sg x) (sg_ge x) (sg_le x)]
            exact decide_eq_true ⟨h, x, hx, rfl⟩)
          have HK8 : Hid (killR 0 I 8 = 256) := hid (by
            have h8 : I.testBit 8 = false := by rw [HI.out 8 (by decide) (by decide)]; exact decide_eq_false (fun h => absurd h.1 (by decide))
            unfold killR
            rw [h8]
            rfl)
          go_wp2_with fail
          go_loopw [14] (fun i wr => ∃ (j : Nat) (m : List (Int × Int)), j ≤ ign.length ∧ i = .int .i64 j ∧ Hid (Wants m Wn I) ∧ Hid (∀ x ∈ ign.take j, sg x < 8 → mget m (sg x : Int) = none) ∧ Hid (One wr tb mb l 2 nb Wn I) ∧ Hid (MapIs wr mw (.int .i64) encI (fun n : Int => Value.int .i64 n) m) ∧ Hid (Turn (fun _ => False) W wr)) (fun i _ => ign.length - (intOf i).toNat)
          case atStart => exact ⟨0, m, Nat.zero_le _, rfl, hWn, hid (fun x hx => by simp at hx), hO, hM, hT⟩
          case round =>
            clear hWn hO hM hT
            obtain ⟨j, m, hj, rfl, hWn, hno, hO, hM, hT⟩ := hrel
            by_cases hlt : j < ign.length
            · skip
              obtain ⟨x, hx⟩ : ∃ x, ign[j]? = some x := ⟨_, List.getElem?_eq_getElem hlt⟩
              obtain ⟨b2, offb2, rfl, hb2, hcell⟩ := HC2.out (fun e => by rw [e] at hlt; exact absurd hlt (Nat.not_lt_zero _))
              have hcx := (hT.out.cell (a := ⟨b2, offb2 + j, none⟩) hb2 id).trans (hcell j x hx)
              have hp0 := pk_nonneg x 8 (by decide)
              have hp1 := pk_lt x 8 (by decide)
              have HX := hid hx
              clear hx hcell
              go_wp2_with fail
              refine (pick_any x 8 wr (by decide) (by decide)).mono ?_
              rintro e w5 ⟨rfl, rfl⟩
              obtain ⟨s, hs⟩ : ∃ s, sg x = s := ⟨_, rfl⟩
              have hse : 1 + pk x 8 = (s : Int) := by rw [sg_eq, hs]
              have hs1 : 1 ≤ s := by rw [← hs]; exact sg_ge x
              have hs8 : s ≤ 8 := by rw [← hs]; exact sg_le x
              have HS := hid hs
              have HSE := hid hse
              clear hs hse hcx
              by_cases h7 : s < 8
              · have h7' : (s : Int) < 8 := by omega
                have h7'' : 1 + pk x 8 < 8 := by rw [HSE.out]; exact h7'
                have HIs : Hid (I.testBit s = true) := hid (by
                  have := HBit.out x (List.mem_of_getElem? HX.out) (by rw [HS.out]; exact h7)
                  rw [HS.out] at this
                  exact this)
                have HNo6 : Hid (∀ x ∈ ign.take (j + 1), sg x < 8 → mget (mdel m (s : Int)) (sg x : Int) = none) := hid (fun y hy hy8 => by
                  rw [mget_mdel]
                  split
                  · rfl
                  · rename_i hne
                    rw [take_more HX.out] at hy
                    rcases List.mem_append.1 hy with hy | hy
                    · exact hno.out y hy hy8
                    · have e := List.mem_singleton.1 hy
                      rw [e, HS.out] at hne
                      exact absurd rfl hne)
                have HFt6 : Hid (∀ k, TFoot tb mb l k → ¬ k = mw) := hid (fun k hk e => by have := HFm.out k hk; omega)
                go_wp2_with (at_delete; refine wpList_mapdel rfl _ _ 44 3 3 rfl Try.underlying44 Try.underlying3 keyI mw rfl hM.out (1 + pk x 8) rfl ?_; intro w7 hm7 t7; rw [HSE.out] at hm7; have HM7 := hid hm7; have HT7 := hid t7; clear hm7 t7)
                go_roundw
                case rel => exact ⟨j + 1, _, by omega, by go_num, hid (hWn.out.del HIs.out), HNo6, hid (hO.out.turned HT7.out HFt6.out), HM7, hid (hT.out.trans' HT7.out (fun k hk e => by have := HMw.out; omega))⟩
                case measure => simp [intOf]; omega
              · have h7' : ¬ (s : Int) < 8 := by omega
                have h7'' : ¬ 1 + pk x 8 < 8 := by rw [HSE.out]; exact h7'
                have HNo6 : Hid (∀ x ∈ ign.take (j + 1), sg x < 8 → mget m (sg x : Int) = none) := hid (fun y hy hy8 => by
                  rw [take_more HX.out] at hy
                  rcases List.mem_append.1 hy with hy | hy
                  · exact hno.out y hy hy8
                  · rw [List.mem_singleton.1 hy, HS.out] at hy8
                    exact absurd hy8 h7)
                go_wp2_with fail
                go_roundw
                case rel => exact ⟨j + 1, _, by omega, by go_num, hWn, HNo6, hO, hM, hT⟩
                case measure => simp [intOf]; omega
            · clear hj
              have HReady : Hid (∀ t : Nat, 1 ≤ t → t ≤ 8 → Wn.testBit t = (mget m (t : Int)).isSome) := hid (fun t h1 h8 => by
                rw [hWn.out.bit t h1 h8]
                cases hI : I.testBit t with
                | false => simp
                | true =>
                  rw [HI.out t h1 h8] at hI
                  obtain ⟨h7, x, hx, rfl⟩ := of_decide_eq_true hI
                  have := hno.out x (by rw [List.take_of_length_le (by omega)]; exact hx) h7
                  rw [this]
                  rfl)
              have HOnes := hid hWn.out.one
              clear hno hWn
              go_wp2_with fail
              go_loopw [16] (fun i wr => ∃ (s Wk : Nat), 1 ≤ s ∧ s ≤ 9 ∧ i = .int .i64 s ∧ Hid (∀ t : Nat, 1 ≤ t → t ≤ 8 → Wk.testBit t = (decide (s ≤ t) && (mget m (t : Int)).isSome)) ∧ Hid (One wr tb mb l 2 nb Wk I) ∧ Hid (MapIs wr mw (.int .i64) encI (fun n : Int => Value.int .i64 n) m) ∧ Hid (Turn (fun _ => False) W wr)) (fun i _ => 9 - (intOf i).toNat)
              case atStart => exact ⟨1, Wn, by decide, by decide, rfl, hid (fun t h1 h8 => by rw [HReady.out t h1 h8]; simp [h1]), hO, hM, hT⟩
              case round =>
                clear hO hM hT
                obtain ⟨s, Wk, hs1, hs9, rfl, hB, hO, hM, hT⟩ := hrel
                by_cases h8 : s ≤ 8
                · have h8' : (s : Int) ≤ 8 := by omega
                  cases em : mget m (s : Int) with
                  | none =>
                    have HEm := hid em
                    clear em
                    go_wp2_with (at_lookup; refine wpList_look_miss rfl _ _ 44 3 3 rfl Try.underlying44 Try.underlying3 keyI _ zeroI mw rfl hM.out (s : Int) rfl HEm.out ?_)
                    go_roundw
                    case rel => exact ⟨s + 1, _, by omega, by omega, by go_num, hid (fun t h1 h8 => by
                      rw [hB.out t h1 h8]
                      by_cases e : t = s
                      · subst e
                        rw [HEm.out]
                        simp
                      · have e2 : decide (s ≤ t) = decide (s + 1 ≤ t) := decide_eq_decide.2 (by omega)
                        rw [e2]), hO, hM, hT⟩
                    case measure => simp [intOf]; omega
                  | some v =>
                    have hv := HOnes.out _ _ em
                    subst hv
                    have HEm := hid em
                    clear em
                    go_wp2_with (at_lookup; refine wpList_look_hit rfl _ _ 44 3 3 rfl Try.underlying44 Try.underlying3 keyI _ zeroI mw rfl hM.out (s : Int) rfl 1 HEm.out ?_)
                    refine (one_take hO.out).mono ?_
                    rintro e w6 ⟨r, hr, rfl, hO6, t6⟩
                    have hrs : r = s := least_of hr hs1 h8 (by rw [hB.out s hs1 h8, HEm.out]; simp) (fun i h1 h2 => by
                      rw [hB.out i h1 (by omega)]
                      have : decide (s ≤ i) = false := decide_eq_false (by omega)
                      rw [this]
                      rfl)
                    subst hrs
                    have HO6 := hid hO6
                    have HM6 := hid (hM.out.turned t6 (fun e => by have := HMwNb.out; omega))
                    have HT6 := hid (hT.out.trans' t6 (fun k hk e => by have := HNb.out; omega))
                    clear hO6 t6 hr
                    go_wp2_with fail
                    go_roundw
                    case rel => exact ⟨r + 1, _, by omega, by omega, by go_num, hid (fun t h1 h8 => by
                      unfold leftW
                      rw [if_neg (by omega), offR_bit h8, hB.out t h1 h8]
                      by_cases e : t = r
                      · subst e
                        rw [show decide (t + 1 ≤ t) = false from decide_eq_false (by omega)]
                        simp
                      · have e2 : decide (r ≤ t) = decide (r + 1 ≤ t) := decide_eq_decide.2 (by omega)
                        rw [e2]
                        simp [e]), HO6, HM6, HT6⟩
                    case measure => simp [intOf]; omega
                · have hs' : s = 9 := by omega
                  subst hs'
                  have HNo : Hid (∀ i, 1 ≤ i → i ≤ 8 → Wk.testBit i = false) := hid (fun i h1 h8 => by
                    rw [hB.out i h1 h8]
                    have : decide (9 ≤ i) = false := decide_eq_false (by omega)
                    rw [this]
                    rfl)
                  clear hM hB
                  go_wp2_with fail
                  refine (one_fork hO.out (by rw [HLl.out]; decide)).mono ?_
                  rintro e w6 ⟨k, c, rfl, hc, hBo, t6⟩
                  obtain ⟨l2, hl2'⟩ : ∃ l2, l ++ [((k : Int), c)] = l2 := ⟨_, rfl⟩
                  rw [hl2'] at hBo
                  have HBo := hid hBo
                  have HC : Hid (W.heap.size ≤ c) := hid (Nat.le_trans hT.out.size hc)
                  have HT6 := hid (hT.out.trans' t6 (fun k hk e => by have := HFt.out mb (.inr (.inl rfl)); omega))
                  clear hBo t6 hc hl2' hO hT
                  go_wp2_with fail
                  refine (both_take HBo.out HNo.out).mono ?_
                  rintro e w7 ⟨rfl, hO7, t7⟩
                  have HO7 := hid hO7
                  have HT7 := hid (HT6.out.trans' t7 (fun k hk e => by have := HNb.out; omega))
                  clear hO7 t7 HBo HT6 HNo
                  go_wp2_with fail
                  go_loopw [19] (fun i wr => ∃ (j : Nat), j ≤ ign.length ∧ i = .int .i64 j ∧ Hid (One wr tb mb l2 (k : Int) c 0 I) ∧ Hid (Turn (fun _ => False) W wr)) (fun i _ => ign.length - (intOf i).toNat)
                  case atStart => exact ⟨0, Nat.zero_le _, rfl, HO7, HT7⟩
                  case round =>
                    clear HO7 HT7
                    obtain ⟨j, hj, rfl, hO, hT⟩ := hrel
                    by_cases hlt : j < ign.length
                    · skip
                      obtain ⟨x, hx⟩ : ∃ x, ign[j]? = some x := ⟨_, List.getElem?_eq_getElem hlt⟩
                      obtain ⟨b2, offb2, rfl, hb2, hcell⟩ := HC2.out (fun e => by rw [e] at hlt; exact absurd hlt (Nat.not_lt_zero _))
                      have hcx := (hT.out.cell (a := ⟨b2, offb2 + j, none⟩) hb2 id).trans (hcell j x hx)
                      have hp0 := pk_nonneg x 8 (by decide)
                      have hp1 := pk_lt x 8 (by decide)
                      have HX := hid hx
                      clear hx hcell
                      go_wp2_with fail
                      refine (pick_any x 8 wr (by decide) (by decide)).mono ?_
                      rintro e w5 ⟨rfl, rfl⟩
                      obtain ⟨s, hs⟩ : ∃ s, sg x = s := ⟨_, rfl⟩
                      have hse : 1 + pk x 8 = (s : Int) := by rw [sg_eq, hs]
                      have hs1 : 1 ≤ s := by rw [← hs]; exact sg_ge x
                      have hs8 : s ≤ 8 := by rw [← hs]; exact sg_le x
                      have HS := hid hs
                      have HSE := hid hse
                      clear hs hse hcx
                      by_cases h7 : s < 8
                      · have h7' : (s : Int) < 8 := by omega
                        have hki : killR 0 I s = 0 := by
                          have := HBit.out x (List.mem_of_getElem? HX.out) (by rw [HS.out]; exact h7)
                          rw [HS.out] at this
                          unfold killR
                          rw [if_pos this]
                        have HKi := hid hki
                        clear hki
                        go_wp2_with fail
                        rw [HSE.out]
                        refine (one_kill hO.out s hs1 hs8).mono ?_
                        rintro e w8 ⟨rfl, hO8, t8⟩
                        rw [HKi.out] at hO8
                        have HO8 := hid hO8
                        have HT8 := hid (hT.out.trans' t8 (fun k hk e => by have := HC.out; omega))
                        clear hO8 t8
                        go_wp2_with fail
                        refine (one_take HO8.out).mono ?_
                        rintro e w9 ⟨r, hr, rfl, hO9, t9⟩
                        have hr0 := least_none hr zero_bits
                        subst hr0
                        have HO9 : Hid (One w9 tb mb l2 (k : Int) c 0 I) := hid hO9
                        have HT9 := hid (HT8.out.trans' t9 (fun k hk e => by have := HC.out; omega))
                        clear hO9 t9 hr
                        go_wp2_with fail
                        refine (one_take HO9.out).mono ?_
                        rintro e w10 ⟨r, hr, rfl, hO10, t10⟩
                        have hr0 := least_none hr zero_bits
                        subst hr0
                        have HO10 : Hid (One w10 tb mb l2 (k : Int) c 0 I) := hid hO10
                        have HT10 := hid (HT9.out.trans' t10 (fun k hk e => by have := HC.out; omega))
                        clear hO10 t10 hr
                        go_wp2_with fail
                        go_roundw
                        case rel => exact ⟨j + 1, by omega, by go_num, HO10, HT10⟩
                        case measure => simp [intOf]; omega
                      · have hs88 : s = 8 := by omega
                        subst hs88
                        have HSE8 : Hid (1 + pk x 8 = 8) := hid HSE.out
                        go_wp2_with fail
                        rw [HSE8.out]
                        refine (one_kill hO.out 8 (by decide) (by decide)).mono ?_
                        rintro e w8 ⟨rfl, hO8, t8⟩
                        rw [HK8.out] at hO8
                        have HO8 := hid hO8
                        have HT8 := hid (hT.out.trans' t8 (fun k hk e => by have := HC.out; omega))
                        clear hO8 t8
                        go_wp2_with fail
                        refine (one_take HO8.out).mono ?_
                        rintro e w9 ⟨r, hr, rfl, hO9, t9⟩
                        have hr0 : r = 8 := least_of hr (by decide) (by decide) (by decide) bits256
                        subst hr0
                        have HO9 : Hid (One w9 tb mb l2 (k : Int) c 0 I) := hid hO9
                        have HT9 := hid (HT8.out.trans' t9 (fun k hk e => by have := HC.out; omega))
                        clear hO9 t9 hr
                        go_wp2_with fail
                        go_roundw
                        case rel => exact ⟨j + 1, by omega, by go_num, HO9, HT9⟩
                        case measure => simp [intOf]; omega
                    · clear hj
                      go_wp2_with fail
                      refine (one_kill hO.out 8 (by decide) (by decide)).mono ?_
                      rintro e w8 ⟨rfl, hO8, t8⟩
                      rw [HK8.out] at hO8
                      have HO8 := hid hO8
                      have HT8 := hid (hT.out.trans' t8 (fun k hk e => by have := HC.out; omega))
                      clear hO8 t8
                      go_wp2_with fail
                      refine (one_take HO8.out).mono ?_
                      rintro e w9 ⟨r, hr, rfl, hO9, t9⟩
                      have hr0 : r = 8 := least_of hr (by decide) (by decide) (by decide) bits256
                      subst hr0
                      have HT9 := hid (HT8.out.trans' t9 (fun k hk e => by have := HC.out; omega))
                      clear hO9 t9 hr
                      go_wp2_with fail
                      go_ret
                      exact ⟨rfl, HT9.out⟩
end Go.Proofs.Ytiohpmcedfbcgaa
