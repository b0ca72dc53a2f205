/- The document's processes: Wait; and that it answers as the program's. Conditions: each theorem's own premises. -/
import Derived.Test.YtiohpmcedfbcgabDoorRefPids
import Derived.Test.YtiohpmcedfbcgabDoorRefExit
import Derived.Deep.QuietTactic
import Derived.BigQuiet
import Derived.OwnWalk
namespace Go.Proofs.YtiohpmcedfbcgabDoor
open Go.RowKit
set_option linter.unusedVariables false

theorem refWait_missing {w : World} {rb pm : Nat} {l : List (Int × Nat)} {f : Nat → Pr} {G : Nat → DP} {M : Nat → List (Int × Int)} (h : DocIs w rb pm l G M) (hc : Coup l f G M) (pid : Int) (hr : ¬ RunsIn l f pid) :
    Calls Tryd.prog 37 #[.pointer (some ⟨rb, 0, none⟩), .int .i64 pid] w fun e w' => e = .returned (.tuple #[.int .i64 0, .int .i64 0, .int .i64 7]) ∧ w = w' := by
  have HR := hid (refRuns_no h hc pid hr)
  clear h hc hr
  go_enter Tryd.func37, Tryd.ntmps37
  go_wp2_with fail
  refine HR.out.mono ?_
  rintro e w1 ⟨rfl, rfl⟩
  go_wp2_with fail
  go_ret3
  exact ⟨rfl, rfl⟩
theorem DocIs.del {w w' : World} {rb pm : Nat} {l : List (Int × Nat)} {G : Nat → DP} {M : Nat → List (Int × Int)} (h : DocIs w rb pm l G M) (k : Int) (hm : MapIs w' pm (.int .i64) encI encDP (mdel (dmap l G) k)) (t : Turn (fun j => j = pm) w w') : DocIs w' rb pm (mdel l k) G M := by
  have hsub : ∀ s ∈ mdel l k, s ∈ l := fun s hs => (List.mem_filter.1 hs).1
  rw [dmap_del] at hm
  exact ⟨(t.cell (a := ⟨rb, 0, none⟩) (lt_of_cell h.hdr) h.ne).trans h.hdr, hm, fun s hs => (h.sw s (hsub s hs)).turned t (h.ap s (hsub s hs)).1.2, fun s hs => (h.si s (hsub s hs)).turned t (h.ap s (hsub s hs)).2.1.2, fun s hs => h.ap s (hsub s hs), fun s hs s' hs' => h.inj s (hsub s hs) s' (hsub s' hs'), h.ne⟩
theorem pidsD_sorted (l : List (Int × Nat)) : (pidsOf l).Pairwise (fun x y => x ≤ y) := by
  unfold pidsOf
  have tr : ∀ a b c : Int, decide (a ≤ b) = true → decide (b ≤ c) = true → decide (a ≤ c) = true := fun a b c h1 h2 => by simp only [decide_eq_true_eq] at *; omega
  have tot : ∀ a b : Int, (decide (a ≤ b) || decide (b ≤ a)) = true := fun a b => by simp only [Bool.or_eq_true, decide_eq_true_eq]; omega
  exact (List.pairwise_mergeSort tr tot (l.map (·.1))).imp (fun h => of_decide_eq_true h)
theorem sorted_take {xs : List Int} (h : xs.Pairwise (fun x y => x ≤ y)) {j : Nat} {k y : Int} (hj : xs[j]? = some k) (hy : y ∈ xs) (hlt : y < k) : y ∈ xs.take j := by
  obtain ⟨i, hi⟩ := List.getElem?_of_mem hy
  rcases Nat.lt_or_ge i j with h1 | h1
  · exact List.mem_of_getElem? (i := i) (by rw [List.getElem?_take, if_pos h1]; exact hi)
  · exfalso
    rcases Nat.eq_or_lt_of_le h1 with e | h2
    · subst e
      rw [hj] at hi
      cases hi
      omega
    · obtain ⟨h3, h4⟩ := List.getElem?_eq_some_iff.1 hj
      obtain ⟨h5, h6⟩ := List.getElem?_eq_some_iff.1 hi
      have := (List.pairwise_iff_getElem.1 h) j i h3 h5 h2
      omega

/-- Whose, and in what state, by the document. -/
def Own (l : List (Int × Nat)) (f : Nat → Pr) (pid y : Int) : Prop := parR l f y = pid
def DocWaited (rb pm : Nat) (l : List (Int × Nat)) (f : Nat → Pr) (G : Nat → DP) (pid : Int) (w : World) (e : Ending) (w' : World) : Prop :=
  ((∀ y ∈ pidsOf l, ¬ Own l f pid y) ∧ e = .returned (.tuple #[.int .i64 0, .int .i64 0, .int .i64 8]) ∧ Turn (fun _ => False) w w') ∨
  ((∃ y ∈ pidsOf l, Own l f pid y) ∧ (∀ y ∈ pidsOf l, Own l f pid y → stR l f y ≠ 2) ∧ e = .returned (.tuple #[.int .i64 0, .int .i64 0, .int .i64 6]) ∧ Turn (fun _ => False) w w') ∨
  (∃ n b, n ∈ pidsOf l ∧ Own l f pid n ∧ stR l f n = 2 ∧ (∀ y ∈ pidsOf l, y < n → Own l f pid y → stR l f y ≠ 2) ∧ mget l n = some b ∧ e = .returned (.tuple #[.int .i64 n, .int .i64 (f b).code, .int .i64 0]) ∧ DocAfter rb pm l G w w' (mdel l n) f)

set_option maxHeartbeats 4000000 in
set_option maxRecDepth 100000 in
theorem refWait_runs {w : World} {rb pm : Nat} {l : List (Int × Nat)} {f : Nat → Pr} {G : Nat → DP} {M : Nat → List (Int × Int)} (h : DocIs w rb pm l G M) (hc : Coup l f G M) (hk : Kin l f) (pid : Int) (hr : RunsIn l f pid) :
    Calls Tryd.prog 37 #[.pointer (some ⟨rb, 0, none⟩), .int .i64 pid] w (DocWaited rb pm l f G pid w) := by
  have HR := hid (refRuns_yes h hc pid hr)
  have hlen := hk.len
  have hnel : l ≠ [] := by
    obtain ⟨b1, h1, _⟩ := hk.one
    exact List.ne_nil_of_mem (mem_of_mget h1)
  have HP := hid (refPids_is h hk.nd (by omega) hnel)
  have HD := hid h
  have HC := hid hc
  have HK := hid hk
  have hrw : rb < w.heap.size := lt_of_cell h.hdr
  clear h hc hk hr hnel
  go_enter Tryd.func37, Tryd.ntmps37
  go_wp2_with fail
  refine HR.out.mono ?_
  rintro e w1 ⟨rfl, rfl⟩
  go_wp2_with fail
  refine HP.out.mono ?_
  rintro e w1 ⟨a, cap, rfl, hrow, t1⟩
  have HRow := hid hrow
  have HT1 := hid t1
  have hpl : (pidsOf l).length ≤ 24 := by rw [pidsOf_length]; exact hlen
  obtain ⟨ps, hps⟩ : ∃ ps, pidsOf l = ps := ⟨_, rfl⟩
  have HSort := hid (pidsD_sorted l)
  have HMem : Hid (∀ y ∈ ps, y ∈ l.map (·.1)) := hid (fun y hy => by rw [← hps] at hy; exact mem_pidsOf.1 hy)
  rw [hps] at HRow hpl HSort
  rw [hps]
  have HPs := hid hps
  clear hrow t1 HP HR hps
  go_wp2_with fail
  go_loopw [7, 18] (fun ev i wr => ∃ (j : Nat) (z : Int), j ≤ ps.length ∧ i = .int .i64 j ∧ ev = .int .i64 z ∧ Hid ((z = 8 ∧ ∀ y ∈ ps.take j, ¬ Own l f pid y) ∨ (z = 6 ∧ ∃ y ∈ ps.take j, Own l f pid y)) ∧ Hid (∀ y ∈ ps.take j, Own l f pid y → stR l f y ≠ 2) ∧ Hid (Turn (fun _ => False) w1 wr)) (fun _ i _ => ps.length - (intOf i).toNat)
  case atStart => exact ⟨0, 8, Nat.zero_le _, rfl, rfl, hid (.inl ⟨rfl, fun y h => by simp at h⟩), hid (fun y h => by simp at h), hid (Turn.refl _ _)⟩
  case round =>
    obtain ⟨j, z, hj, rfl, rfl, hZ, hS, hT⟩ := hrel
    by_cases hlt : j < ps.length
    · have hlt' : (j : Int) < ps.length := by omega
      obtain ⟨n, hn⟩ : ∃ n, ps[j]? = some n := ⟨_, List.getElem?_eq_getElem hlt⟩
      obtain ⟨g, rfl, hg, hb⟩ := HRow.out.resolve_left (by rintro rfl; simp at hlt)
      have cn := (hT.out.cell (a := ⟨g, j, none⟩) hg id).trans (hb j n hn)
      obtain ⟨b, hbn⟩ := mget_of_key (HMem.out n (List.mem_of_getElem? hn))
      have hDr := HD.out.turned (HT1.out.trans hT.out) (fun _ _ => id)
      have hh := hDr.hdr
      have lk := lookup_doc hDr n
      unfold whereD at lk
      rw [hbn] at lk
      simp only [Option.elim, encDP] at lk
      obtain ⟨cp1, cp2, cp3, _⟩ := HC.out _ (mem_of_mget hbn)
      simp only at cp1 cp2 cp3
      rw [cp1, cp2, cp3] at lk
      have hpar : parR l f n = (f b).parent := by unfold parR; rw [hbn]; rfl
      have hst : stR l f n = (f b).state := by unfold stR; rw [hbn]; rfl
      have HN := hid hn
      have HB := hid hbn
      have HDr := hid hDr
      have HPar := hid hpar
      have HSt := hid hst
      have htk : ps.take (j + 1) = ps.take j ++ [n] := by rw [List.take_add_one, hn]; rfl
      have HTk := hid htk
      clear hb hn hbn hDr hpar hst cp1 cp2 cp3 htk
      by_cases hp : (f b).parent = pid
      · have hpb : ((f b).parent != pid) = false := by simp [hp]
        have HP := hid hp
        clear hp
        by_cases hs : (f b).state = 2
        · have hsb : ((f b).state == 2) = true := beq_iff_eq.2 hs
          have HS2 := hid hs
          clear hs
          have HMp := hid (HDr.out.mp.turned ((Turn.refl (fun _ => False) wr).alloc (.cells #[.int .i64 (f b).parent, .int .i64 (f b).state, .int .i64 (f b).code, .map (some (G b).wb), .map (some (G b).ib)] 76)) id)
          have HDa := hid (HDr.out.turned ((Turn.refl (fun _ => False) wr).alloc (.cells #[.int .i64 (f b).parent, .int .i64 (f b).state, .int .i64 (f b).code, .map (some (G b).wb), .map (some (G b).ib)] 76)) (fun _ _ => id))
          have hrb : rb < wr.heap.size := lt_of_cell hh
          go_wp2_with (at_delete; refine wpList_mapdel rfl _ _ 77 3 76 rfl Tryd.underlying77 Tryd.underlying3 keyI pm rfl HMp.out n rfl ?_; intro w4 hm4 t4; have HM4 := hid hm4; have HT4 := hid t4; clear hm4 t4)
          have hpmw : pm < wr.heap.size := HDr.out.mp.lt
          have q2 : w4.cell? ⟨wr.heap.size, 2, none⟩ = some (.int .i64 (f b).code) := (HT4.out.cell (a := ⟨wr.heap.size, 2, none⟩) (by simp) (by simp only; omega)).trans (World.cell?_alloc_new _ _ _ _)
          go_quiet (fail)
          go_wp2_with fail
          go_ret3
          have hsort := HSort.out
          have hD4 := (HDa.out.del n HM4.out HT4.out).turned ((Turn.refl (fun _ => False) w4).drewN nq) (fun _ _ => id)
          refine .inr (.inr ⟨n, b, by rw [HPs.out]; exact List.mem_of_getElem? HN.out, by unfold Own; rw [HPar.out]; exact HP.out, by rw [HSt.out]; exact HS2.out, fun y hy hyn ho => ?_, HB.out, rfl, G, M, hD4, fun t ht => HC.out t (List.mem_filter.1 ht).1, ?_, fun k hk => .inl ?_⟩)
          · rw [HPs.out] at hy
            exact hS.out y (sorted_take hsort HN.out hy hyn) ho
          · refine (((HT1.out.trans hT.out).alloc _).mono (fun _ _ h => h.elim)).trans ((HT4.out.mono (fun k _ e => .inr (.inl e))).trans ((Turn.refl _ _).drewN _))
          · rcases hk with e | e | ⟨t, ht, e⟩
            · exact .inl e
            · exact .inr (.inl e)
            · exact .inr (.inr ⟨t, (List.mem_filter.1 ht).1, e⟩)
        · have hsb : ((f b).state == 2) = false := beq_eq_false_iff_ne.2 hs
          have HS2 := hid hs
          clear hs
          go_wp2_with fail
          go_roundw
          case rel =>
            refine ⟨j + 1, 6, by omega, by go_num, rfl, hid (.inr ⟨rfl, n, by rw [HTk.out]; simp, by unfold Own; rw [HPar.out]; exact HP.out⟩), hid (fun y hy ho => ?_), hid (hT.out.alloc _)⟩
            rw [HTk.out] at hy
            rcases List.mem_append.1 hy with h | h
            · exact hS.out y h ho
            · rw [List.mem_singleton.1 h, HSt.out]; exact HS2.out
          case measure => simp [intOf]; omega
      · have hpb : ((f b).parent != pid) = true := bne_iff_ne.2 hp
        have HP := hid hp
        clear hp
        have hno : ¬ Own l f pid n := by unfold Own; rw [HPar.out]; exact HP.out
        have HNo := hid hno
        clear hno
        go_wp2_with fail
        go_roundw
        case rel =>
          refine ⟨j + 1, z, by omega, by go_num, rfl, hid ?_, hid (fun y hy ho => ?_), hid (hT.out.alloc _)⟩
          · rcases hZ.out with ⟨h1, h2⟩ | ⟨h1, y, hy, ho⟩
            · refine .inl ⟨h1, fun y hy => ?_⟩
              rw [HTk.out] at hy
              rcases List.mem_append.1 hy with h | h
              · exact h2 y h
              · rw [List.mem_singleton.1 h]; exact HNo.out
            · exact .inr ⟨h1, y, by rw [HTk.out]; exact List.mem_append_left _ hy, ho⟩
          · rw [HTk.out] at hy
            rcases List.mem_append.1 hy with h | h
            · exact hS.out y h ho
            · rw [List.mem_singleton.1 h] at ho; exact absurd ho HNo.out
        case measure => simp [intOf]; omega
    · have hlt' : ¬ (j : Int) < ps.length := by omega
      go_wp2_with fail
      go_ret3
      have htk : ps.take j = ps := List.take_of_length_le (by omega)
      have hz := hZ.out
      have hs := hS.out
      rw [htk] at hz hs
      rcases hz with ⟨rfl, h2⟩ | ⟨rfl, h2⟩
      · exact .inl ⟨by rw [HPs.out]; exact h2, rfl, HT1.out.trans hT.out⟩
      · exact .inr (.inl ⟨by rw [HPs.out]; exact h2, by rw [HPs.out]; exact hs, rfl, HT1.out.trans hT.out⟩)

/-- The program's Wait, in the document's words. -/
def ProgWaited (tb mb : Nat) (l : List (Int × Nat)) (f : Nat → Pr) (pid : Int) (w : World) (e : Ending) (w' : World) : Prop :=
  ((∀ y ∈ pidsOf l, ¬ Own l f pid y) ∧ e = .returned (.tuple #[.int .i64 0, .int .i64 0, .iface 40 (.int .i64 8)]) ∧ Turn (fun _ => False) w w') ∨
  ((∃ y ∈ pidsOf l, Own l f pid y) ∧ (∀ y ∈ pidsOf l, Own l f pid y → stR l f y ≠ 2) ∧ e = .returned (.tuple #[.int .i64 0, .int .i64 0, .iface 40 (.int .i64 6)]) ∧ Turn (fun _ => False) w w') ∨
  (∃ n b, n ∈ pidsOf l ∧ Own l f pid n ∧ stR l f n = 2 ∧ (∀ y ∈ pidsOf l, y < n → Own l f pid y → stR l f y ≠ 2) ∧ mget l n = some b ∧ (f b).state = 2 ∧ e = .returned (.tuple #[.int .i64 n, .int .i64 (f b).code, .nilIface]) ∧ TabIs w' tb mb (mdel l n) f ∧ Turn (fun j => j = mb) w w')
theorem mem_own {l : List (Int × Nat)} {f : Nat → Pr} {pid y : Int} : y ∈ ownOf l f pid ↔ y ∈ pidsOf l ∧ Own l f pid y := by
  unfold ownOf Own
  rw [List.mem_filter]
  simp
theorem waited_doc {tb mb : Nat} {l : List (Int × Nat)} {f : Nat → Pr} {pid : Int} {w w' : World} {e : Ending} (h : Waited tb mb l f pid w e w') : ProgWaited tb mb l f pid w e w' := by
  have hs : (ownOf l f pid).Pairwise (fun x y => x ≤ y) := (pidsD_sorted l).filter _
  rcases h with ⟨h1, h2, h3⟩ | ⟨h1, h2, h3, h4⟩ | ⟨j, k, b, hj, hno, hb, hst, he, hT, t⟩
  · refine .inl ⟨fun y hy ho => ?_, h2, h3⟩
    have := mem_own.2 ⟨hy, ho⟩
    rw [h1] at this; cases this
  · refine .inr (.inl ⟨?_, fun y hy ho => h2 y (mem_own.2 ⟨hy, ho⟩), h3, h4⟩)
    obtain ⟨y, r, hyr⟩ : ∃ y r, ownOf l f pid = y :: r := by
      cases e : ownOf l f pid with
      | nil => exact absurd e h1
      | cons y r => exact ⟨y, r, rfl⟩
    obtain ⟨h5, h6⟩ := mem_own.1 (show y ∈ ownOf l f pid by rw [hyr]; simp)
    exact ⟨y, h5, h6⟩
  · obtain ⟨h5, h6⟩ := mem_own.1 (List.mem_of_getElem? hj)
    refine .inr (.inr ⟨k, b, h5, h6, ?_, fun y hy hlt ho => hno y (sorted_take hs hj (mem_own.2 ⟨hy, ho⟩) hlt), hb, hst, he, hT, t⟩)
    unfold stR
    rw [hb]
    exact hst
end Go.Proofs.YtiohpmcedfbcgabDoor
