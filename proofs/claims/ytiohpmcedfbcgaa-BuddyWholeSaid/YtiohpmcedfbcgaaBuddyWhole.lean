/- BuddyWhole walked: true, and nothing that was there turns. Conditions: the argument lies in memory as a slice of moves. -/
import Derived.Test.YtiohpmcedfbcgaaTaken
import Derived.Test.YtiohpmcedfbcgaaBlocksIn
import Derived.Deep.LoopGhost
namespace Go.Proofs.Ytiohpmcedfbcgaa
open Go.RowKit
set_option linter.unusedVariables false

set_option maxRecDepth 100000 in
theorem whole_many (nn : Int) (a : Option Addr) (n cap : Nat) (w : World) (h : 60 < n) (hm : n ≤ 9223372036854775807) :
    Calls Try.prog 6 #[.int .i64 nn, .slice a n cap] w fun e w' => e = .returned (.bool true) ∧ Turn (fun _ => False) w w' := by
  have h' : (60 : Int) < n := by omega
  go_enter Try.func6, Try.ntmps6
  go_wp2_with fail
  all_goals go_ret
  all_goals exact ⟨rfl, Turn.refl _ _⟩

def ones (l : List Int) : List (Int × Int) := l.map fun f => (f, 1)
theorem ones_snoc {l : List Int} {f : Int} (h : f ∉ l) : mput (ones l) f 1 = ones (l ++ [f]) := by
  have h0 : mget (ones l) f = none := mget_none (fun p hp e => by
    obtain ⟨x, hx, rfl⟩ := List.mem_map.1 hp
    exact h (by rw [← e]; exact hx))
  unfold mput
  rw [h0]
  simp [ones]
theorem ones_none {l : List Int} {f : Int} (h : f ∉ l) : mget (ones l) f = none := mget_none (fun p hp e => by
  obtain ⟨x, hx, rfl⟩ := List.mem_map.1 hp
  exact h (by rw [← e]; exact hx))
theorem ones_some {l : List Int} (hn : l.Nodup) {f : Int} (h : f ∈ l) : mget (ones l) f = some 1 := mget_mem (by
  unfold MNodup ones
  rw [List.map_map]
  rw [show (Prod.fst ∘ fun f : Int => (f, (1 : Int))) = id from rfl, List.map_id]
  exact hn) (List.mem_map.2 ⟨f, h, rfl⟩)

/-- The first frames of a block. -/
def firsts (b : Int) (i : Nat) : List Int := (List.range i).map fun k : Nat => b + (k : Int)
theorem firsts_succ (b : Int) (i : Nat) : firsts b (i + 1) = firsts b i ++ [b + (i : Int)] := by unfold firsts; rw [List.range_succ]; simp

theorem fresh_frame {l : List Bk} (h : l.Pairwise fun s t => ¬ Ov s.2 s.1 t.2 t.1) {j : Nat} {tb : Int} {to : Nat} (ht : l[j]? = some (tb, to)) {i : Nat} (hi : (i : Int) < sz to) : tb + (i : Int) ∉ framesOf (l.take j) ++ firsts tb i := by
  intro hm
  rcases List.mem_append.1 hm with hm | hm
  · obtain ⟨s, hs, h1, h2⟩ := mem_frames.1 hm
    obtain ⟨k, hk⟩ := List.getElem?_of_mem hs
    rw [List.getElem?_take] at hk
    split at hk
    · rename_i hkj
      have hkl := (List.getElem?_eq_some_iff.1 hk).1
      have hjl := (List.getElem?_eq_some_iff.1 ht).1
      have := List.pairwise_iff_getElem.1 h k j hkl hjl hkj
      rw [(List.getElem?_eq_some_iff.1 hk).2, (List.getElem?_eq_some_iff.1 ht).2] at this
      simp only [Ov, not_and] at this
      omega
    · cases hk
  · unfold firsts at hm
    obtain ⟨k, hk, e⟩ := List.mem_map.1 hm
    rw [List.mem_range] at hk
    omega
theorem sum_le (n : Nat) (l : List Bk) (h : ∀ t ∈ l, t.2 < 7) : sumSz l ≤ 64 * l.length := by
  induction l with
  | nil => simp [sumSz]
  | cons t l ih =>
    have h1 := ih (fun s hs => h s (List.mem_cons_of_mem _ hs))
    have h2 := sz_le (k := t.2) (by have := h t (List.mem_cons_self ..); omega)
    unfold sumSz at *
    simp only [List.map_cons, List.sum_cons, List.length_cons]
    omega
theorem perm_sum {l m : List Int} (h : l.Perm m) : l.sum = m.sum := by
  induction h with
  | nil => rfl
  | cons a _ ih => rw [List.sum_cons, List.sum_cons, ih]
  | swap a b l => simp only [List.sum_cons]; omega
  | trans _ _ h1 h2 => rw [h1, h2]
theorem len_all {l : List Bk} {n : Int} (hd : (framesOf l).Nodup) (h : ∀ f, f ∈ framesOf l ↔ 0 ≤ f ∧ f < n) (hn : 0 ≤ n) : ((framesOf l).length : Int) = n := by
  have hp : (framesOf l).Perm ((List.range n.toNat).map fun i : Nat => (i : Int)) := by
    rw [List.perm_ext_iff_of_nodup hd]
    · intro f
      rw [h, List.mem_map]
      constructor
      · rintro ⟨h0, h1⟩; exact ⟨f.toNat, by rw [List.mem_range]; omega, by omega⟩
      · rintro ⟨i, hi, rfl⟩; rw [List.mem_range] at hi; omega
    · rw [List.Nodup, List.pairwise_map]
      exact (List.nodup_range (n := n.toNat)).imp (fun hne e => hne (by omega))
  have hl := hp.length_eq
  simp only [List.length_map, List.length_range] at hl
  omega
theorem frames_step {l : List Bk} {j : Nat} {tb : Int} {to : Nat} (ht : l[j]? = some (tb, to)) : framesOf (l.take (j + 1)) = framesOf (l.take j) ++ firsts tb (sz to).toNat := by
  rw [List.take_add_one, ht, framesOf_append]
  simp [framesOf, firsts]

set_option maxHeartbeats 40000000 in
set_option maxRecDepth 100000 in
theorem whole_few (nn : Int) (a : Option Addr) (xs : List (Bool × Int)) (cap : Nat) (W : World) (hl : xs.length ≤ 60)
    (hc : xs ≠ [] → ∃ b off, a = some ⟨b, off, none⟩ ∧ MovesAt W b off xs ∧ b < W.heap.size) :
    Calls Try.prog 6 #[.int .i64 nn, .slice a xs.length cap] W fun e w' => e = .returned (.bool true) ∧ Turn (fun _ => False) W w' := by
  have HC := hid hc
  have hl' : (xs.length : Int) ≤ 60 := by omega
  have hmm := @run_makeMap Try.prog
  clear hc
  go_enter Try.func6, Try.ntmps6
  go_wp2_with fail
  refine (pooled_any W).mono ?_
  rintro e w1 ⟨rfl, t1⟩
  have HT1 := hid t1
  clear t1
  go_wp2_with fail
  refine (pick_some nn 200 w1 (by decide) (by decide)).mono ?_
  rintro e w2 ⟨K, hK0, hK1, rfl, rfl⟩
  go_wp2_with fail
  refine (new_any (1 + K) _ (by omega) (by omega)).mono ?_
  rintro e w2 ⟨p, mb, vs, fr, rfl, hp, hg, ht, hn⟩
  obtain ⟨n, hnn⟩ : ∃ n : Int, 1 + K = n := ⟨_, rfl⟩
  rw [hnn] at hp hg
  rw [hnn]
  have hn1 : 1 ≤ n := by omega
  have hn2 : n ≤ 200 := by omega
  have HP : Hid (PoolOf W w2 p mb vs ⟨n, fr, []⟩) := hid ⟨hp, HT1.out.trans ht, fun k hk => Nat.le_trans HT1.out.size (hn k hk)⟩
  have HG := hid hg
  clear hp hg ht hn hnn hK0 hK1
  go_wp2_with fail
  refine (taken_any HP.out HG.out rfl (show n ≤ 256 by omega) a xs cap hl HC.out).mono ?_
  rintro e w3 ⟨v, held, vs3, fr3, tk3, rfl, hH⟩
  obtain ⟨ah, ch, rfl⟩ := hH.blks.slice
  have HH := hid hH
  clear hH HP HG
  go_wp2_with fail
  refine (free_any HH.out.pool.pool HH.out.good (show n ≤ 256 by omega)).mono ?_
  rintro e w4 ⟨fl, af, cf, hf, rfl, hat, t4⟩
  have HH4 : Hid (Held W w4 p mb vs3 ⟨n, fr3, tk3⟩ (.slice ah held.length ch) held) := hid ⟨HH.out.pool.turned t4, HH.out.good, HH.out.blks.turned t4 (fun _ _ => id), HH.out.own, HH.out.perm⟩
  have HF := hid hf
  have HFat := hid hat
  clear hf hat t4 HH
  go_wp2_with fail
  have hfp : (held ++ fl).Perm (tk3 ++ listTo fr3 7) := HH4.out.perm.append HF.out.1
  have hap : (held ++ fl).Pairwise fun s t => ¬ Ov s.2 s.1 t.2 t.1 := (hfp.pairwise_iff (fun hn ho => hn ho.symm)).2 HH4.out.good.apart
  have hok : ∀ t ∈ held ++ fl, Ok n t.2 t.1 := fun t ht => by
    rcases List.mem_append.1 (hfp.mem_iff.1 ht) with h1 | h1
    · exact HH4.out.good.okT t h1
    · obtain ⟨h2, h3⟩ := mem_listTo.1 h1
      exact HH4.out.good.okF t.2 t.1 h2 h3
  have hfr : ∀ f, f ∈ framesOf (held ++ fl) ↔ 0 ≤ f ∧ f < n := fun f => by
    rw [← HH4.out.good.frames f, mem_frames, mem_frames]
    simp only [hfp.mem_iff]
  have hfl : fl.length ≤ 1792 := by
    rw [HF.out.1.length_eq]
    exact listTo_len (fun k hk => HH4.out.good.len (show n ≤ 256 by omega) k hk) (Nat.le_refl _)
  have hhl : held.length ≤ 256 := by
    have h1 := HH4.out.good.sum (show 0 ≤ n by omega)
    have h2 : (tk3.length : Int) ≤ sumSz tk3 := by
      have : ∀ l : List Bk, (l.length : Int) ≤ sumSz l := by
        intro l
        induction l with
        | nil => simp [sumSz]
        | cons t l ih =>
          have := sz_pos t.2
          unfold sumSz at *
          simp only [List.map_cons, List.sum_cons, List.length_cons]
          omega
      exact this tk3
    have h3 : held.length = tk3.length := HH4.out.perm.length_eq
    have h4 : 0 ≤ sumSz (listTo fr3 7) := by have := len_frames (listTo fr3 7); omega
    show held.length ≤ 256
    simp only at h1
    omega
  have HAp := hid hap
  have HOk := hid hok
  have HFr := hid hfr
  have HM0 : Hid (MapIs (w4.alloc (.map #[] 0)) w4.heap.size (.int .i64) encI (fun n : Int => Value.int .i64 n) (ones (framesOf []))) := hid (MapIs.made w4)
  have HT0 : Hid (Turn (fun _ => False) w4 (w4.alloc (.map #[] 0))) := hid ((Turn.refl _ _).alloc _)
  clear hfp hap hok hfr
  obtain ⟨mo, hmo⟩ : ∃ mo, w4.heap.size = mo := ⟨_, rfl⟩
  rw [hmo] at HM0
  rw [hmo]
  have HMO := hid hmo
  clear hmo
  go_loopw [11, 12] (fun c i wr => ∃ j : Nat, j ≤ held.length + fl.length ∧ i = .int .i64 j ∧ c = .int .i64 (sumSz (fl.take (j - held.length))) ∧ Hid (MapIs wr mo (.int .i64) encI (fun n : Int => Value.int .i64 n) (ones (framesOf ((held ++ fl).take j)))) ∧ Hid (Turn (fun _ => False) w4 wr)) (fun _ i _ => held.length + fl.length - (intOf i).toNat)
  case atStart => exact ⟨0, Nat.zero_le _, rfl, by simp [sumSz], HM0, HT0⟩
  case round =>
    clear HM0 HT0
    obtain ⟨j, hj, rfl, rfl, hM, hT⟩ := hrel
    by_cases hlt : j < held.length + fl.length
    · obtain ⟨t, ht⟩ : ∃ t, (held ++ fl)[j]? = some t := ⟨_, List.getElem?_eq_getElem (by rw [List.length_append]; exact hlt)⟩
      obtain ⟨tb, to⟩ := t
      obtain ⟨ho7, hb0, hba, hbn⟩ := HOk.out _ (List.mem_of_getElem? ht)
      simp only at ho7 hb0 hba hbn
      have hsp := sz_pos to
      have hsl := sz_le (k := to) (by omega)
      have hx := wrap_sz ⟨to, ho7⟩
      simp only at hx
      by_cases hjh : j < held.length
      · have hth : held[j]? = some (tb, to) := by rw [List.getElem?_append_left hjh] at ht; exact ht
        obtain ⟨g, rfl, hgl, hgat⟩ : ∃ g, ah = some ⟨g, 0, none⟩ ∧ g < w4.heap.size ∧ BksAt w4 g 0 held := by
          rcases HH4.out.blks.shape with ⟨_, h0⟩ | ⟨g, cap', h0, _, _, r1, r2⟩
          · rw [h0] at hjh; simp at hjh
          · cases h0; exact ⟨g, rfl, r1, r2⟩
        obtain ⟨c0, c1⟩ := (hgat.turned hT.out hgl id) j _ hth
        simp only [Nat.zero_add] at c0 c1
        have HT0 := hid ht
        clear ht hth hgat
        have hjh' : (j : Int) < held.length := by omega
        have HCount : Hid (Value.int .i64 (sumSz (fl.take (j - held.length))) = Value.int .i64 (sumSz (fl.take (j + 1 - held.length)))) := hid (by rw [show j + 1 - held.length = 0 by omega, show j - held.length = 0 by omega])
        have hglr := Nat.lt_of_lt_of_le hgl hT.out.size
        have hlt' : (j : Int) < (held.length : Int) + fl.length := by omega
        have hmod : tb.tmod (sz to) = 0 := by rw [Int.tmod_eq_emod_of_nonneg hb0]; exact hba
        have hsz0 : (sz to == 0) = false := beq_eq_false_iff_ne.2 (by omega)
        have hsz1 : sz to ≠ 0 := by omega
        have hsum : IntKind.i64.wrap (tb + sz to) = tb + sz to := IntWalk.i64_in _ (by omega)
        have g1 : ¬ ((to : Int) < 0) := by omega
        have g2 : ¬ (6 < (to : Int)) := by omega
        have g3 : ¬ (tb < 0) := by omega
        have g4 : ¬ (n < tb + sz to) := by omega
        go_wp2_with fail
        go_quiet (fail)
        go_wp2_with fail
        have hml := hM.out.lt
        have HB0 : Hid (Turn (fun _ => False) wr ((wr.alloc (.cells #[.int .i64 tb, .int .i64 (to : Int)] 58)).drewN nq)) := hid (((Turn.refl _ _).alloc _).drewN _)
        have hb0c : ((wr.alloc (.cells #[.int .i64 tb, .int .i64 (to : Int)] 58)).drewN nq).cell? ⟨wr.heap.size, 0, none⟩ = some (.int .i64 tb) := by simp
        have hb1c : ((wr.alloc (.cells #[.int .i64 tb, .int .i64 (to : Int)] 58)).drewN nq).cell? ⟨wr.heap.size, 1, none⟩ = some (.int .i64 (to : Int)) := by simp
        have HBC := hid (And.intro hb0c hb1c)
        clear hb0c hb1c
        generalize (wr.alloc (.cells #[.int .i64 tb, .int .i64 (to : Int)] 58)).drewN nq = wb at *
        obtain ⟨bn, hbn'⟩ : ∃ bn, wr.heap.size = bn := ⟨_, rfl⟩
        rw [hbn'] at HBC hml
        rw [hbn']
        clear hbn'
        go_loopw [14] (fun f wr2 => ∃ i : Nat, (i : Int) ≤ sz to ∧ f = .int .i64 (tb + (i : Int)) ∧ Hid (MapIs wr2 mo (.int .i64) encI (fun n : Int => Value.int .i64 n) (ones (framesOf ((held ++ fl).take j) ++ firsts tb i))) ∧ Hid (Turn (fun k => k = mo) wb wr2)) (fun f _ => (sz to - (intOf f - tb)).toNat)
        case atStart => exact ⟨0, by omega, by simp, hid (by have := hM.out.turned HB0.out id; simpa [firsts] using this), hid (Turn.refl _ _)⟩
        case round =>
          obtain ⟨i, hi, rfl, hM2, hT2⟩ := hrel
          have hc0 : wr.cell? ⟨bn, 0, none⟩ = some (.int .i64 tb) := (hT2.out.cell (a := ⟨bn, 0, none⟩) (lt_of_cell HBC.out.1) (by simp only; omega)).trans HBC.out.1
          have hc1 : wr.cell? ⟨bn, 1, none⟩ = some (.int .i64 (to : Int)) := (hT2.out.cell (a := ⟨bn, 1, none⟩) (lt_of_cell HBC.out.2) (by simp only; omega)).trans HBC.out.2
          by_cases hlt2 : (i : Int) < sz to
          · have hff : tb + (i : Int) < tb + sz to := by omega
            have HNone : Hid (mget (ones (framesOf ((held ++ fl).take j) ++ firsts tb i)) (tb + (i : Int)) = none) := hid (ones_none (fresh_frame HAp.out HT0.out hlt2))
            go_wp2_with fail
            go_quiet (fail)
            have HM3 : Hid (MapIs (wr.drewN nq) mo (.int .i64) encI (fun n : Int => Value.int .i64 n) (ones (framesOf ((held ++ fl).take j) ++ firsts tb i))) := hid (hM2.out.turned ((Turn.refl (fun _ => False) _).drewN nq) id)
            go_wp2_with (first | (at_lookup; refine wpList_look_miss rfl _ _ 44 3 3 rfl Try.underlying44 Try.underlying3 keyI _ zeroI mo rfl HM3.out (tb + (i : Int)) rfl HNone.out ?_) | (at_mapUpdate; refine wpList_mapput rfl _ _ _ 44 3 3 rfl Try.underlying44 Try.underlying3 keyI mo rfl HM3.out (tb + (i : Int)) rfl 1 rfl ?_; intro w5 hm5 t5; have HM5 := hid hm5; have HT5 := hid t5; clear hm5 t5))
            go_roundw
            case rel =>
              refine ⟨i + 1, by omega, by rw [Int.natCast_add]; go_num, hid ?_, hid ((hT2.out.drewN nq).trans HT5.out)⟩
              have := HM5.out
              rw [ones_snoc (fresh_frame HAp.out HT0.out hlt2), List.append_assoc, ← firsts_succ] at this
              exact this
            case measure => simp [intOf]; omega
          · have hff : ¬ (tb + (i : Int) < tb + sz to) := by omega
            go_wp2_with fail
            go_quiet (fail)
            go_wp2_with fail
            go_roundw
            case rel =>
              have hie : i = (sz to).toNat := by omega
              have hM4 := hM2.out.turned ((Turn.refl (fun _ => False) _).drewN nq) id
              rw [hie, ← frames_step HT0.out] at hM4
              exact ⟨j + 1, by omega, by go_num, HCount.out, hid hM4, hid (((hT.out.trans HB0.out).trans' hT2.out (fun k hk e => by have := HMO.out; omega)).drewN nq)⟩
            case measure => simp [intOf]; omega
      · obtain ⟨d, rfl⟩ : ∃ d, j = held.length + d := ⟨j - held.length, by omega⟩
        have hds : held.length + d - held.length = d := by omega
        have hds1 : held.length + d + 1 - held.length = d + 1 := by omega
        have hth : fl[d]? = some (tb, to) := by rw [List.getElem?_append_right (by omega), hds] at ht; exact ht
        obtain ⟨g, rfl, hgl, hgat⟩ : ∃ g, af = some ⟨g, 0, none⟩ ∧ g < w4.heap.size ∧ BksAt w4 g 0 fl := by
          rcases HFat.out with h0 | ⟨g, h0, _, r1, r2⟩
          · rw [h0] at hth; simp at hth
          · exact ⟨g, h0, r1, r2⟩
        obtain ⟨c0, c1⟩ := (hgat.turned hT.out hgl id) _ _ hth
        simp only [Nat.zero_add] at c0 c1
        have HT0 := hid ht
        have hglr := Nat.lt_of_lt_of_le hgl hT.out.size
        have hdl : d < fl.length := by omega
        have hdl' : (d : Int) < fl.length := by omega
        have hdi : ((held.length : Int) + d) - held.length = d := by omega
        have HCount : Hid (Value.int .i64 (sumSz (fl.take d) + sz to) = Value.int .i64 (sumSz (fl.take (held.length + d + 1 - held.length)))) := hid (by
          rw [hds1, List.take_add_one, hth, sumSz_append]
          simp [sumSz])
        rw [hds]
        obtain ⟨cnt, hcnt⟩ : ∃ cnt, sumSz (fl.take d) = cnt := ⟨_, rfl⟩
        have hcb : 0 ≤ cnt ∧ cnt ≤ 200000 := by
          have h1 := len_frames (fl.take d)
          have h2 : sumSz (fl.take d) ≤ 64 * (fl.take d).length := sum_le fl.length _ (fun t ht => (HOk.out t (List.mem_append_right _ (List.mem_of_mem_take ht))).1)
          have h3 : (fl.take d).length ≤ fl.length := by rw [List.length_take]; omega
          omega
        obtain ⟨hcb0, hcb1⟩ := hcb
        rw [hcnt] at HCount
        rw [hcnt]
        have HDS := hid (And.intro hds hds1)
        clear ht hth hgat hcnt hds hds1 hlt hj hjh
        have hmod : tb.tmod (sz to) = 0 := by rw [Int.tmod_eq_emod_of_nonneg hb0]; exact hba
        have hsz0 : (sz to == 0) = false := beq_eq_false_iff_ne.2 (by omega)
        have hsz1 : sz to ≠ 0 := by omega
        have hsum : IntKind.i64.wrap (tb + sz to) = tb + sz to := IntWalk.i64_in _ (by omega)
        have g1 : ¬ ((to : Int) < 0) := by omega
        have g2 : ¬ (6 < (to : Int)) := by omega
        have g3 : ¬ (tb < 0) := by omega
        have g4 : ¬ (n < tb + sz to) := by omega
        have hcs : wrap64 (cnt + sz to) = cnt + sz to := IntWalk.wrap64_in _ ⟨by omega, by omega⟩
        have hx64 := wrap_sz64 ⟨to, ho7⟩
        simp only at hx64
        go_wp2_with fail
        clear hx64 hcs
        go_quiet (fail)
        go_wp2_with fail
        have hml := hM.out.lt
        have HB0 : Hid (Turn (fun _ => False) wr ((wr.alloc (.cells #[.int .i64 tb, .int .i64 (to : Int)] 58)).drewN nq)) := hid (((Turn.refl _ _).alloc _).drewN _)
        have hb0c : ((wr.alloc (.cells #[.int .i64 tb, .int .i64 (to : Int)] 58)).drewN nq).cell? ⟨wr.heap.size, 0, none⟩ = some (.int .i64 tb) := by simp
        have hb1c : ((wr.alloc (.cells #[.int .i64 tb, .int .i64 (to : Int)] 58)).drewN nq).cell? ⟨wr.heap.size, 1, none⟩ = some (.int .i64 (to : Int)) := by simp
        have HBC := hid (And.intro hb0c hb1c)
        clear hb0c hb1c
        generalize (wr.alloc (.cells #[.int .i64 tb, .int .i64 (to : Int)] 58)).drewN nq = wb at *
        obtain ⟨bn, hbn'⟩ : ∃ bn, wr.heap.size = bn := ⟨_, rfl⟩
        rw [hbn'] at HBC hml
        rw [hbn']
        clear hbn'
        go_loopw [14] (fun f wr2 => ∃ i : Nat, (i : Int) ≤ sz to ∧ f = .int .i64 (tb + (i : Int)) ∧ Hid (MapIs wr2 mo (.int .i64) encI (fun n : Int => Value.int .i64 n) (ones (framesOf ((held ++ fl).take (held.length + d)) ++ firsts tb i))) ∧ Hid (Turn (fun k => k = mo) wb wr2)) (fun f _ => (sz to - (intOf f - tb)).toNat)
        case atStart => exact ⟨0, by omega, by simp, hid (by have := hM.out.turned HB0.out id; simpa [firsts] using this), hid (Turn.refl _ _)⟩
        case round =>
          obtain ⟨i, hi, rfl, hM2, hT2⟩ := hrel
          have hc0 : wr.cell? ⟨bn, 0, none⟩ = some (.int .i64 tb) := (hT2.out.cell (a := ⟨bn, 0, none⟩) (lt_of_cell HBC.out.1) (by simp only; omega)).trans HBC.out.1
          have hc1 : wr.cell? ⟨bn, 1, none⟩ = some (.int .i64 (to : Int)) := (hT2.out.cell (a := ⟨bn, 1, none⟩) (lt_of_cell HBC.out.2) (by simp only; omega)).trans HBC.out.2
          by_cases hlt2 : (i : Int) < sz to
          · have hff : tb + (i : Int) < tb + sz to := by omega
            have HNone : Hid (mget (ones (framesOf ((held ++ fl).take (held.length + d)) ++ firsts tb i)) (tb + (i : Int)) = none) := hid (ones_none (fresh_frame HAp.out HT0.out hlt2))
            go_wp2_with fail
            go_quiet (fail)
            have HM3 : Hid (MapIs (wr.drewN nq) mo (.int .i64) encI (fun n : Int => Value.int .i64 n) (ones (framesOf ((held ++ fl).take (held.length + d)) ++ firsts tb i))) := hid (hM2.out.turned ((Turn.refl (fun _ => False) _).drewN nq) id)
            go_wp2_with (first | (at_lookup; refine wpList_look_miss rfl _ _ 44 3 3 rfl Try.underlying44 Try.underlying3 keyI _ zeroI mo rfl HM3.out (tb + (i : Int)) rfl HNone.out ?_) | (at_mapUpdate; refine wpList_mapput rfl _ _ _ 44 3 3 rfl Try.underlying44 Try.underlying3 keyI mo rfl HM3.out (tb + (i : Int)) rfl 1 rfl ?_; intro w5 hm5 t5; have HM5 := hid hm5; have HT5 := hid t5; clear hm5 t5))
            go_roundw
            case rel =>
              refine ⟨i + 1, by omega, by rw [Int.natCast_add]; go_num, hid ?_, hid ((hT2.out.drewN nq).trans HT5.out)⟩
              have := HM5.out
              rw [ones_snoc (fresh_frame HAp.out HT0.out hlt2), List.append_assoc, ← firsts_succ] at this
              exact this
            case measure => simp [intOf]; omega
          · have hff : ¬ (tb + (i : Int) < tb + sz to) := by omega
            go_wp2_with fail
            go_quiet (fail)
            go_wp2_with fail
            go_roundw
            case rel =>
              have hie : i = (sz to).toNat := by omega
              have hM4 := hM2.out.turned ((Turn.refl (fun _ => False) _).drewN nq) id
              rw [hie, ← frames_step HT0.out] at hM4
              exact ⟨held.length + d + 1, by omega, by go_num, HCount.out, hid hM4, hid (((hT.out.trans HB0.out).trans' hT2.out (fun k hk e => by have := HMO.out; omega)).drewN nq)⟩
            case measure => simp [intOf]; omega
    · have hje : j = held.length + fl.length := by omega
      subst hje
      have HMap : Hid (MapIs wr mo (.int .i64) encI (fun n : Int => Value.int .i64 n) (ones (framesOf (held ++ fl)))) := hid (by have := hM.out; rw [List.take_of_length_le (by rw [List.length_append]; omega)] at this; exact this)
      have hcnt : sumSz (fl.take (held.length + fl.length - held.length)) = sumSz fl := by rw [show held.length + fl.length - held.length = fl.length by omega, List.take_length]
      rw [hcnt]
      have HLf : Hid (leftOf fr3 = sumSz fl) := hid (by
        rw [left_sum]
        unfold sumSz
        exact perm_sum (HF.out.1.map _).symm)
      clear hcnt hM
      obtain ⟨cnt, hcn⟩ : ∃ cnt, sumSz fl = cnt := ⟨_, rfl⟩
      rw [hcn] at HLf
      rw [hcn]
      clear hcn hlt hj
      go_wp2_with fail
      go_loopw [15] (fun i wr2 => ∃ i' : Nat, i' ≤ fl.length ∧ i = .int .i64 i' ∧ Hid (Turn (fun _ => False) wr wr2)) (fun i _ => fl.length - (intOf i).toNat)
      case atStart => exact ⟨0, Nat.zero_le _, rfl, hid (Turn.refl _ _)⟩
      case round =>
        obtain ⟨i, hi, rfl, hT3⟩ := hrel
        by_cases hlt : i < fl.length
        · obtain ⟨t, ht⟩ : ∃ t, fl[i]? = some t := ⟨_, List.getElem?_eq_getElem hlt⟩
          obtain ⟨tb, to⟩ := t
          obtain ⟨ho7, hb0, hba, hbn⟩ := HOk.out _ (List.mem_append_right _ (List.mem_of_getElem? ht))
          simp only at ho7 hb0 hba hbn
          obtain ⟨g, rfl, hgl, hgat⟩ : ∃ g, af = some ⟨g, 0, none⟩ ∧ g < w4.heap.size ∧ BksAt w4 g 0 fl := by
            rcases HFat.out with h0 | ⟨g, h0, _, r1, r2⟩
            · rw [h0] at ht; simp at ht
            · exact ⟨g, h0, r1, r2⟩
          have hgat2 := hgat.turned (hT.out.trans hT3.out) hgl id
          obtain ⟨c0, c1⟩ := hgat2 _ _ ht
          simp only [Nat.zero_add] at c0 c1
          have hglr := Nat.lt_of_lt_of_le hgl (hT.out.trans hT3.out).size
          have HX := hid ht
          clear ht hgat
          by_cases h6 : to < 6
          · have h6' : (to : Int) < 6 := by omega
            have hsp := sz_pos to
            have hxor : bits BinOp.xor IntKind.i64 tb (sz to) = bud to tb := by
              have := xor_bud hb0 (by omega) h6 hba
              rwa [wrap_sz64 ⟨to, ho7⟩] at this
            have hno : decide (((bud to tb, to) : Bk) ∈ fl) = false := by
              rw [decide_eq_false_iff_not]
              intro hm
              have m1 := (mem_listTo.1 (HF.out.1.mem_iff.1 hm)).2
              have m2 := (mem_listTo.1 (HF.out.1.mem_iff.1 (List.mem_of_getElem? HX.out))).2
              simp only at m1 m2
              unfold bud at m1
              split at m1
              · rename_i e
                exact HH4.out.good.nb to tb h6 e m2 m1
              · rename_i e
                have e3 := (align_cases hba).resolve_left e
                have := HH4.out.good.nb to (tb - sz to) h6 e3 m1
                rw [show tb - sz to + sz to = tb by omega] at this
                exact this m2
            have hT4 : Turn (fun _ => False) wr ((wr.alloc (.cells #[.int .i64 tb, .int .i64 (to : Int)] 58)).drew) := ((Turn.refl (fun _ => False) _).alloc _).drew
            have hcon := contains_bk (cap := cf) (hgat2.turned hT4 hglr id) (Nat.lt_of_lt_of_le hglr hT4.size) (bud to tb, to) (by omega)
            rw [hno] at hcon
            have HCon := hid hcon
            clear hno hcon hT4 hgat2
            have hx := wrap_sz ⟨to, ho7⟩
            simp only at hx
            go_wp2_with fail
            go_region_with (go_at_call 25; refine HCon.out.mono ?_; rintro e w5 ⟨rfl, t5⟩; have HT5 := hid t5; clear t5)
            all_goals
              go_wp2_with fail
              go_roundw
              case rel => first | exact ⟨i + 1, by omega, by go_num, hid ((hT3.out.trans (((Turn.refl (fun _ => False) _).alloc _).drew)).trans HT5.out)⟩ | ((repeat apply Exists.intro); exact ⟨⟨i + 1, by omega, by go_num, hid ((hT3.out.trans (((Turn.refl (fun _ => False) _).alloc _).drew)).trans HT5.out)⟩, rfl⟩)
              case measure => simp [intOf]; omega
          · have h6' : decide ((to : Int) < 6) = false := by rw [decide_eq_false_iff_not]; omega
            have h6n : ¬ (to : Int) < 6 := by omega
            clear hgat2
            go_wp2_with fail
            go_quiet (fail)
            go_wp2_with fail
            go_roundw
            case rel => first | exact ⟨i + 1, by omega, by go_num, hid (hT3.out.trans (((Turn.refl (fun _ => False) _).alloc _).drewN _))⟩ | ((repeat apply Exists.intro); exact ⟨⟨i + 1, by omega, by go_num, hid (hT3.out.trans (((Turn.refl (fun _ => False) _).alloc _).drewN _))⟩, rfl⟩)
            case measure => simp [intOf]; omega
        · have hie : i = fl.length := by omega
          subst hie
          have HMap3 : Hid (MapIs wr mo (.int .i64) encI (fun n : Int => Value.int .i64 n) (ones (framesOf (held ++ fl)))) := hid (HMap.out.turned hT3.out id)
          have hT4 := hT.out.trans hT3.out
          have HPool := hid (HH4.out.pool.turned hT4)
          have HNd := hid (nodup_frames HAp.out)
          have hln : ((ones (framesOf (held ++ fl))).length : Int) = n := by
            have h1 := len_all HNd.out HFr.out (show 0 ≤ n by omega)
            unfold ones
            rw [List.length_map]; exact h1
          have HLn := hid hln
          have HFin := hid (left_is HPool.out.pool (fun k hk => by have := HH4.out.good.len (show n ≤ 256 by omega) k hk; show (fr3 k).length ≤ _; exact Nat.le_trans this (by decide)))
          have hle : leftOf (⟨n, fr3, tk3⟩ : Pl).fr = cnt := HLf.out
          rw [hle] at HFin
          clear hln hlt hle hT4
          go_wp2_with fail
          go_loop [17] (fun f => ∃ k : Nat, (k : Int) ≤ n ∧ f = .int .i64 k) (fun f => (n - intOf f).toNat)
          case atStart => exact ⟨0, by omega, rfl⟩
          case round =>
            obtain ⟨k, hk, rfl⟩ := hrel
            by_cases hlt : (k : Int) < n
            · have HOne : Hid (mget (ones (framesOf (held ++ fl))) (k : Int) = some 1) := hid (ones_some HNd.out ((HFr.out k).2 ⟨by omega, hlt⟩))
              go_wp2_with (at_lookup; refine wpList_look_hit rfl _ _ 44 3 3 rfl Try.underlying44 Try.underlying3 keyI _ zeroI mo rfl HMap3.out (k : Int) rfl 1 HOne.out ?_)
              go_round
              case rel => exact ⟨k + 1, by omega, by go_num⟩
              case measure => simp [intOf]; omega
            · have hlb : (((ones (framesOf (held ++ fl))).length : Int) == n) = true := beq_iff_eq.2 HLn.out
              go_wp2_with (at_len; refine wpList_maplen rfl _ 44 3 3 rfl Try.underlying44 mo rfl HMap3.out ?_)
              refine HFin.out.mono ?_
              rintro e w5 ⟨rfl, rfl⟩
              go_wp2_with fail
              go_ret
              exact ⟨rfl, HPool.out.turn⟩
end Go.Proofs.Ytiohpmcedfbcgaa
