/- OomFair: the law's walk: for every list of candidates the call returns true. Conditions: each theorem's own premises. -/
import Derived.Test.YtiohpmcedfbcgaaOomFairPlain
import Derived.Test.YtiohpmcedfbcgaaOomFairCalls
import Derived.Test.YtiohpmcedfbcgaaMaps
import Derived.Test.YtiohpmcedfbcgaaPick
namespace Go.Proofs.Ytiohpmcedfbcgaa
open Go.RowKit
set_option linter.unusedVariables false

set_option maxRecDepth 100000 in
theorem fair_many (a : Option Addr) (n cap : Nat) (x y : Int) (w : World) (h : 30 < n) (hm : n ≤ 9223372036854775807) :
    Calls Try.prog 5 #[.slice a n cap, .int .i64 x, .int .i64 y] w fun e w' => e = .returned (.bool true) ∧ Turn (fun _ => False) w w' := by
  have h' : (30 : Int) < n := by omega
  go_enter Try.func5, Try.ntmps5
  go_wp2_with fail
  all_goals go_ret
  all_goals exact ⟨rfl, Turn.refl _ _⟩

set_option maxHeartbeats 1000000 in
set_option maxRecDepth 100000 in
theorem fair_none (a : Option Addr) (cap : Nat) (x y : Int) (w : World) :
    Calls Try.prog 5 #[.slice a 0 cap, .int .i64 x, .int .i64 y] w fun e w' => e = .returned (.bool true) ∧ Turn (fun _ => False) w w' := by
  have hmm := @run_makeMap Try.prog
  go_enter Try.func5, Try.ntmps5
  go_wp2_with fail
  refine (chosen_any w).mono ?_
  rintro e w1 ⟨rfl, t1⟩
  go_wp2_with fail
  refine wp_loop_rounds 1 ?_
  rw [rounds_succ]
  go_wp2_with fail
  refine (victim_none a cap _).mono ?_
  rintro e w2 ⟨rfl, rfl⟩
  go_wp2_with fail
  go_ret
  exact ⟨rfl, (t1.alloc _).alloc _⟩

/-- The numbers of the candidates that have been seen. -/
def seenOf (l : List Cd) : List (Int × Int) := l.map fun c => (c.1, (1 : Int))
theorem seen_none {l : List Cd} {c : Cd} (h : ∀ x ∈ l, x.1 ≠ c.1) : mget (seenOf l) c.1 = none := mget_none (fun p hp => by
  obtain ⟨x, hx, rfl⟩ := List.mem_map.1 hp
  exact h x hx)
theorem seen_some {l : List Cd} (ha : Apart l) {c : Cd} (h : ∃ x ∈ l, x.1 = c.1) : mget (seenOf l) c.1 = some 1 := by
  obtain ⟨x, hx, e⟩ := h
  have hn : MNodup (seenOf l) := by
    unfold MNodup seenOf
    rw [List.map_map]
    exact ha
  exact mget_mem hn (List.mem_map.2 ⟨x, hx, by rw [e]⟩)

theorem seen_snoc {l : List Cd} {c : Cd} (h : ∀ x ∈ l, x.1 ≠ c.1) : mput (seenOf l) c.1 1 = seenOf (l ++ [c]) := by
  unfold mput
  rw [seen_none h]
  simp [seenOf]
theorem apart_snoc {l : List Cd} {c : Cd} (ha : Apart l) (h : ∀ x ∈ l, x.1 ≠ c.1) : Apart (l ++ [c]) := by
  unfold Apart at *
  rw [List.map_append, List.nodup_append]
  refine ⟨ha, by simp, ?_⟩
  intro a h1 b h2
  simp at h2
  subst h2
  obtain ⟨x, hx, rfl⟩ := List.mem_map.1 h1
  exact h x hx
theorem take_next {l : List Cd} {j : Nat} {c : Cd} (h : l[j]? = some c) : l.take (j + 1) = l.take j ++ [c] := by rw [List.take_add_one, h]; rfl

theorem zero_int (w : World) : (zeroValue 3).run Try.prog w = .ok (.int .i64 0) w := by kernel_rfl

theorem nil_cells (X : World) (a : Addr) (j : Nat) (u : Value) (h : ([] : List Value)[j]? = some u) : X.cell? (a.add j) = some u := by simp at h
theorem nil_one (u : Value) (h : u ∈ ([] : List Value)) : u.oneCell' = true := by cases h
theorem owns_shape {w : World} {base : Nat} {e : TypeId} {size : Nat} {v : Value} {n : Nat} {l : List Value} (h : w.ownsRow base e size v n l) : ∃ a cap, v = .slice a n cap := by
  obtain ⟨_, h0 | ⟨g, cap, cur, rfl, _⟩⟩ := h
  · exact ⟨none, 0, by rw [h0.1, h0.2]⟩
  · exact ⟨_, cap, rfl⟩

theorem CandsAt.more {w : World} {b off : Nat} {l : List Cd} (h : CandsAt w b off l) {k : Nat} {c : Cd} (hk : l[k]? = some c) (r : Int) : CandsAt (w.setCell ⟨b, off + k * 3 + 1, none⟩ (.int .i64 r)) b off (l.set k (c.1, r, c.2.2)) := by
  intro i x hx
  rw [List.getElem?_set] at hx
  have hkl : k < l.length := (List.getElem?_eq_some_iff.1 hk).1
  by_cases e : k = i
  · subst e
    rw [if_pos rfl, if_pos hkl] at hx
    cases hx
    obtain ⟨h0, h1, h2⟩ := h k c hk
    refine ⟨?_, World.cell?_setCell_same _ _ _ h1, ?_⟩
    · rw [World.cell?_setCell_other _ _ _ _ (by intro e2; injection e2 with e3 e4; omega)]; exact h0
    · rw [World.cell?_setCell_other _ _ _ _ (by intro e2; injection e2 with e3 e4; omega)]; exact h2
  · rw [if_neg e] at hx
    obtain ⟨h0, h1, h2⟩ := h i x hx
    refine ⟨?_, ?_, ?_⟩
    · rw [World.cell?_setCell_other _ _ _ _ (by intro e2; injection e2 with e3 e4; omega)]; exact h0
    · rw [World.cell?_setCell_other _ _ _ _ (by intro e2; injection e2 with e3 e4; omega)]; exact h1
    · rw [World.cell?_setCell_other _ _ _ _ (by intro e2; injection e2 with e3 e4; omega)]; exact h2

set_option maxHeartbeats 8000000 in
set_option maxRecDepth 100000 in
theorem fair_some (b off cap : Nat) (xs : List Cd) (x y : Int) (w : World) (hc : CandsAt w b off xs) (hl : xs.length ≤ 30) (hne : xs ≠ []) (hb : b < w.heap.size) (hcap : xs.length ≤ cap) (hcap2 : cap ≤ 9223372036854775807) :
    Calls Try.prog 5 #[.slice (some ⟨b, off, none⟩) xs.length cap, .int .i64 x, .int .i64 y] w fun e w' => e = .returned (.bool true) ∧ Turn (fun _ => False) w w' := by
  have hmm := @run_makeMap Try.prog
  have HC := hid hc
  have HNE := hid hne
  have hl' : (xs.length : Int) ≤ 30 := by omega
  have hpos : 0 < xs.length := List.length_pos_iff.2 hne
  clear hc hne
  go_enter Try.func5, Try.ntmps5
  go_wp2_with fail
  refine (chosen_any w).mono ?_
  rintro e w1 ⟨rfl, t1⟩
  go_wp2_with fail
  have HT0 : Hid (Turn (fun _ => False) w (w1.alloc (.map #[] 0))) := hid (t1.alloc _)
  have HM0 : Hid (MapIs (w1.alloc (.map #[] 0)) w1.heap.size (.int .i64) encI (fun n : Int => Value.int .i64 n) (seenOf [])) := hid (MapIs.made w1)
  have hmb : w.heap.size ≤ w1.heap.size := t1.size
  clear t1
  go_loopw [8] (fun i wr => ∃ j : Nat, j ≤ xs.length ∧ i = .int .i64 j ∧ Turn (fun _ => False) w wr ∧ MapIs wr w1.heap.size (.int .i64) encI (fun n : Int => Value.int .i64 n) (seenOf (xs.take j)) ∧ Apart (xs.take j) ∧ ∀ c ∈ xs.take j, c.2.1 ≤ 900) (fun i _ => xs.length - (intOf i).toNat)
  case atStart => exact ⟨0, Nat.zero_le _, rfl, HT0.out, HM0.out, by simp [Apart], by simp⟩
  case round =>
    clear HT0 HM0
    obtain ⟨j, hj, rfl, hT, hM, hA, hR⟩ := hrel
    have HA := hid hA
    have HR := hid hR
    have HM := hid hM
    clear hA hR hM
    by_cases hlt : j < xs.length
    · obtain ⟨c, hcj⟩ : ∃ c, xs[j]? = some c := ⟨_, List.getElem?_eq_getElem hlt⟩
      obtain ⟨d0, d1, d2⟩ := HC.out.turned hT hb id j c hcj
      have HT := hid hT
      have HJ := hid hcj
      clear hT hcj
      by_cases hs : ∃ x ∈ xs.take j, x.1 = c.1
      · have hg := hid (seen_some HA.out hs)
        clear hs
        have hg2 : Hid (mget (mput (seenOf (xs.take j)) c.1 2) c.1 = some 2) := hid (by rw [mget_mput, if_pos rfl])
        have tok1 : True := trivial
        go_wp2_with (first | (at_lookup; have _t := tok1; refine wpList_look_hit rfl _ _ 44 3 3 rfl Try.underlying44 Try.underlying3 keyI _ zero_int w1.heap.size rfl HM.out c.1 rfl 1 hg.out ?_; clear tok1) | (at_mapUpdate; refine wpList_mapput rfl _ _ _ 44 3 3 rfl Try.underlying44 Try.underlying3 keyI w1.heap.size rfl HM.out c.1 rfl 2 rfl ?_; intro w2 hm2 t2; have d0' := (t2.cell (a := ⟨b, off + j * 3, none⟩) (Nat.lt_of_lt_of_le hb HT.out.size) (by simp only; omega)).trans d0; have HT2 := hid (HT.out.trans' t2 (fun k hk e => by omega)); have HM2 := hid hm2; clear hm2 t2 d0 d1 d2 HT HM) | (at_lookup; refine wpList_look_hit rfl _ _ 44 3 3 rfl Try.underlying44 Try.underlying3 keyI _ zero_int w1.heap.size rfl HM2.out c.1 rfl 2 hg2.out ?_))
        go_ret
        exact ⟨rfl, HT2.out⟩
      · have hg := hid (seen_none (l := xs.take j) (c := c) (fun x hx e => hs ⟨x, hx, e⟩))
        have HS := hid hs
        clear hs
        have hg2 : Hid (mget (mput (seenOf (xs.take j)) c.1 1) c.1 = some 1) := hid (by rw [mget_mput, if_pos rfl])
        have tok1 : True := trivial
        by_cases hr : c.2.1 ≤ 900
        · go_wp2_with (first | (at_lookup; have _t := tok1; refine wpList_look_miss rfl _ _ 44 3 3 rfl Try.underlying44 Try.underlying3 keyI _ zero_int w1.heap.size rfl HM.out c.1 rfl hg.out ?_; clear tok1) | (at_mapUpdate; refine wpList_mapput rfl _ _ _ 44 3 3 rfl Try.underlying44 Try.underlying3 keyI w1.heap.size rfl HM.out c.1 rfl 1 rfl ?_; intro w2 hm2 t2; have d0' := (t2.cell (a := ⟨b, off + j * 3, none⟩) (Nat.lt_of_lt_of_le hb HT.out.size) (by simp only; omega)).trans d0; have d1' := (t2.cell (a := ⟨b, off + j * 3 + 1, none⟩) (Nat.lt_of_lt_of_le hb HT.out.size) (by simp only; omega)).trans d1; have HT2 := hid (HT.out.trans' t2 (fun k hk e => by omega)); have HM2 := hid hm2; clear hm2 t2 d0 d1 d2 HT HM) | (at_lookup; refine wpList_look_hit rfl _ _ 44 3 3 rfl Try.underlying44 Try.underlying3 keyI _ zero_int w1.heap.size rfl HM2.out c.1 rfl 1 hg2.out ?_))
          go_roundw
          case rel => exact ⟨j + 1, by omega, by go_num, HT2.out, by rw [take_next HJ.out, ← seen_snoc (fun x hx e => HS.out ⟨x, hx, e⟩)]; exact HM2.out, by rw [take_next HJ.out]; exact apart_snoc HA.out (fun x hx e => HS.out ⟨x, hx, e⟩), by
            intro x hx
            rw [take_next HJ.out] at hx
            rcases List.mem_append.1 hx with hx | hx
            · exact HR.out x hx
            · simp at hx; subst hx; exact hr⟩
          case measure => simp [intOf]; omega
        · have hr' : 900 < c.2.1 := by omega
          clear hr
          go_wp2_with (first | (at_lookup; have _t := tok1; refine wpList_look_miss rfl _ _ 44 3 3 rfl Try.underlying44 Try.underlying3 keyI _ zero_int w1.heap.size rfl HM.out c.1 rfl hg.out ?_; clear tok1) | (at_mapUpdate; refine wpList_mapput rfl _ _ _ 44 3 3 rfl Try.underlying44 Try.underlying3 keyI w1.heap.size rfl HM.out c.1 rfl 1 rfl ?_; intro w2 hm2 t2; have d0' := (t2.cell (a := ⟨b, off + j * 3, none⟩) (Nat.lt_of_lt_of_le hb HT.out.size) (by simp only; omega)).trans d0; have d1' := (t2.cell (a := ⟨b, off + j * 3 + 1, none⟩) (Nat.lt_of_lt_of_le hb HT.out.size) (by simp only; omega)).trans d1; have HT2 := hid (HT.out.trans' t2 (fun k hk e => by omega)); have HM2 := hid hm2; clear hm2 t2 d0 d1 d2 HT HM) | (at_lookup; refine wpList_look_hit rfl _ _ 44 3 3 rfl Try.underlying44 Try.underlying3 keyI _ zero_int w1.heap.size rfl HM2.out c.1 rfl 1 hg2.out ?_))
          go_ret
          exact ⟨rfl, HT2.out⟩
    · have hj' : j = xs.length := by omega
      subst hj'
      rw [List.take_length] at HA HR
      clear HM
      have HT := hid hT
      clear hT
      obtain ⟨x0, ys, hx⟩ : ∃ x0 ys, xs = x0 :: ys := by
        cases hxs : xs with
        | nil => exact absurd hxs HNE.out
        | cons a l => exact ⟨a, l, rfl⟩
      have HX := hid hx
      have hlen : ys.length + 1 = xs.length := by rw [hx]; rfl
      have HC1 : Hid (CandsAt wr b off (x0 :: ys)) := hid (by rw [← hx]; exact HC.out.turned HT.out hb id)
      have HL := hid hlen
      have HVc := hid (victim_some b off cap x0 ys wr HC1.out (by omega) (by have := HT.out.size; omega))
      rw [hlen, ← hx] at HVc
      clear hx hlen
      go_wp2_with fail
      refine HVc.out.mono ?_
      rintro e w2 ⟨rfl, t2⟩
      clear HVc HC1
      obtain ⟨p, hp⟩ : ∃ p, (oVictim xs).1 = p := ⟨_, rfl⟩
      obtain ⟨ok, hok⟩ : ∃ ok, (oVictim xs).2 = ok := ⟨_, rfl⟩
      rw [hp, hok]
      have HP := hid hp
      have HK := hid hok
      have HT2 := hid (HT.out.trans t2)
      clear hp hok t2 HT
      have hB : (w2.alloc (.cells #[.int .i64 p] 3)).cell? ⟨w2.heap.size, 0, none⟩ = some (.int .i64 p) := World.cell?_alloc_new _ _ _ _
      have HTB : Hid (Turn (fun _ => False) w (w2.alloc (.cells #[.int .i64 p] 3))) := hid (HT2.out.alloc _)
      have hpos' : (0 : Int) < xs.length := by omega
      go_wp2_with fail
      generalize w2.alloc (.cells #[.int .i64 p] 3) = W at hB HTB ⊢
      generalize w2.heap.size = B at hB ⊢
      have hBl := lt_of_cell hB
      simp only at hBl
      clear HT2
      refine (pick_some x xs.length W (by omega) (by omega)).mono ?_
      rintro e W' ⟨N, hN0, hN1, rfl, rfl⟩
      obtain ⟨t, rfl⟩ := Int.eq_ofNat_of_zero_le hN0
      have htl : t < xs.length := by omega
      have htn : (t : Int) < xs.length := hN1
      have HCW : Hid (CandsAt W b off xs) := hid (HC.out.turned HTB.out hb id)
      obtain ⟨i0, hi, hz0, hz1, hz2⟩ := info_parts info_cand3
      go_wp2_with fail
      have htc : t ≤ cap := by omega
      have htc' : (t : Int) ≤ cap := by omega
      have htl' : (t : Int) ≤ xs.length := by omega
      have hct : ¬ cap = t := by omega
      have hTa : Turn (fun _ => False) W (W.alloc (.cells #[] 38)).drew := ((Turn.refl _ _).alloc _).drew
      have HO1 : Hid ((W.alloc (.cells #[] 38)).drew.ownsRow W.heap.size 38 3 (.slice (some ⟨W.heap.size, 0, none⟩) 0 0) 0 []) := hid (World.ownsRow_lit W #[] 0 (Nat.le_refl _) (Nat.zero_le _) rfl).drew
      have hWb : b < W.heap.size := Nat.lt_of_lt_of_le hb HTB.out.size
      have HC1 : Hid (CandsAt (W.alloc (.cells #[] 38)).drew b (off + t * 3) (xs.drop t)) := hid ((HCW.out.turned hTa hWb id).drop t)
      have HTa := hid hTa
      have HL1 : Hid ((candCells (xs.drop t)).length = (xs.length - t) * 3) := hid (by rw [candCells_len, List.length_drop])
      have HL2 : Hid ((candCells (xs.take t)).length = t * 3) := hid (by rw [candCells_len, List.length_take]; omega)
      clear hTa
      go_region_law (first | (refine step_append_own rfl _ _ 36 rfl W.heap.size 38 i0 (.agg #[.int .i64 0, .int .i64 0, .int .i64 0]) 3 24 Try.underlying36 hi hz0 hz1 hz2 rfl (by decide) _ 0 [] rfl HO1.out ⟨b, off + t * 3, none⟩ (xs.length - t) (cap - t) (candCells (xs.drop t)) rfl HL1.out HC1.out.cell (candCells_one _) (by unfold maxLen; omega) (by omega) (by simp) ?_; intro v3 w3 ho3 hg3) | (refine step_append_own rfl _ _ 36 rfl W.heap.size 38 i0 (.agg #[.int .i64 0, .int .i64 0, .int .i64 0]) 3 24 Try.underlying36 hi hz0 hz1 hz2 rfl (by decide) _ _ _ rfl ho3 ⟨b, off, none⟩ t cap (candCells (xs.take t)) rfl HL2.out ((HCW.out.turned (HTa.out.grown hg3 (fun k hk hlt => by cases hk; exact absurd hlt (Nat.lt_irrefl _))) hWb id).take t).cell (candCells_one _) (by unfold maxLen; omega) (by omega) (by have := hg3.size; simp at this; omega) ?_; intro v4 w4 ho4 hg4))
      have HT4 : Hid (Turn (fun _ => False) W w4) := hid (by
        have g1 := HTa.out.grown hg3 (fun k hk hlt => by cases hk; exact absurd hlt (Nat.lt_irrefl _))
        exact g1.grown hg4 (fun k hk hlt => absurd (ownBlock_ge ho3 hk) (by omega)))
      have ho4' : w4.ownsRow W.heap.size 38 3 v4 (xs.drop t ++ xs.take t).length (candCells (xs.drop t ++ xs.take t)) := by
        have e : (xs.drop t ++ xs.take t).length = 0 + (xs.length - t) + t := by rw [List.length_append, List.length_drop, List.length_take]; omega
        rw [e, candCells_append]
        exact ho4
      clear ho3 hg3 ho4 hg4 HO1 HC1 HTa HL1 HL2
      have hne4 : xs.drop t ++ xs.take t ≠ [] := by
        intro e
        have := congrArg List.length e
        rw [List.length_append, List.length_drop, List.length_take] at this
        simp at this; omega
      obtain ⟨g4, cap4, hv4, hg4a, hg4b, hc4⟩ := candsAt_of_owns ho4' hne4
      have hln : (xs.drop t ++ xs.take t).length = xs.length := by rw [List.length_append, List.length_drop, List.length_take]; omega
      rw [hln] at hv4
      rw [hv4]
      obtain ⟨z0, zs, hz⟩ : ∃ z0 zs, xs.drop t ++ xs.take t = z0 :: zs := by
        cases hxs : xs.drop t ++ xs.take t with
        | nil => exact absurd hxs hne4
        | cons a l => exact ⟨a, l, rfl⟩
      have hzl : zs.length + 1 = xs.length := by rw [← hln, hz]; rfl
      have HV4 : Hid ((oVictim (z0 :: zs)).1 = p ∧ (oVictim (z0 :: zs)).2 = ok) := hid (by
        rw [← hz, victim_perm HA.out (turned_perm xs t)]; exact ⟨HP.out, HK.out⟩)
      rw [hz] at hc4
      have HVc := hid (victim_some g4 0 cap4 z0 zs w4 hc4 (by omega) hg4b)
      rw [hzl, HV4.out.1, HV4.out.2] at HVc
      clear hc4 ho4' hv4 hz hne4 hln hzl hg4b HV4
      go_wp2_with fail
      (with_reducible refine HVc.out.mono ?_)
      rintro e w5 ⟨rfl, t5⟩
      have HT5 := hid (HT4.out.trans t5)
      have hB5 : w5.cell? ⟨B, 0, none⟩ = some (.int .i64 p) := (HT5.out.cell (a := ⟨B, 0, none⟩) hBl id).trans hB
      clear t5 HT4 HVc
      go_wp2_with fail
      (with_reducible refine (indexPid_any b off cap xs p B w5 (HCW.out.turned HT5.out hWb id) (by omega) (by have := HT5.out.size; omega) hB5).mono ?_)
      rintro e w6 ⟨r, rfl, t6, hr⟩
      have HT6 := hid (HT5.out.trans t6)
      have hB6 : w6.cell? ⟨B, 0, none⟩ = some (.int .i64 p) := (HT6.out.cell (a := ⟨B, 0, none⟩) hBl id).trans hB
      have HRr := hid hr
      clear t6 HT5 hB5 hr
      cases ok
      · obtain rfl : p = 0 := HP.out.symm.trans (none_zero HK.out)
        go_wp2_with fail
        go_loop [15] (fun i => ∃ j : Nat, j ≤ xs.length ∧ i = .int .i64 j) (fun i => xs.length - (intOf i).toNat)
        case atStart => exact ⟨0, Nat.zero_le _, rfl⟩
        case round =>
          obtain ⟨j, hj, rfl⟩ := hrel
          by_cases hlt : j < xs.length
          · obtain ⟨c, hcj⟩ : ∃ c, xs[j]? = some c := ⟨_, List.getElem?_eq_getElem hlt⟩
            obtain ⟨d0, d1, d2⟩ := (HCW.out.turned HT6.out hWb id) j c hcj
            have hno := none_goes HK.out c (List.mem_of_getElem? hcj)
            clear hcj
            by_cases h1 : 0 < c.2.1
            · have h2 : c.2.2 ≤ -100 := by omega
              clear hno
              go_wp2_with fail
              go_round
              case rel => exact ⟨j + 1, by omega, by go_num⟩
              case measure => simp [intOf]; omega
            · have h2 : c.2.1 ≤ 0 := by omega
              clear hno h1
              go_wp2_with fail
              go_round
              case rel => exact ⟨j + 1, by omega, by go_num⟩
              case measure => simp [intOf]; omega
          · have hj' : j = xs.length := by omega
            subst hj'
            go_wp2_with fail
            go_ret
            exact ⟨rfl, HTB.out.trans HT6.out⟩
      · obtain ⟨bb, hbb, hbp, hbs, hbm⟩ := some_goes HK.out
        obtain ⟨k, c, hk, hcp, rfl⟩ : ∃ (k : Nat) (c : Cd), xs[k]? = some c ∧ c.1 = p ∧ r = k := by
          rcases HRr.out with ⟨_, hno⟩ | h
          · exact absurd (hbp.symm.trans HP.out) (hno bb hbb)
          · exact h
        have hcb : c = bb := apart_eq HA.out (List.mem_of_getElem? hk) hbb (hcp.trans (HP.out.symm.trans hbp))
        subst hcb
        have hsp := of_score_pos hbs
        obtain ⟨hp1, hp2⟩ := hsp
        obtain ⟨d0, d1, d2⟩ := (HCW.out.turned HT6.out hWb id) k c hk
        have hkl : k < xs.length := (List.getElem?_eq_some_iff.1 hk).1
        have hkl' : (k : Int) < xs.length := by omega
        have HKc := hid hk
        have HBM := hid hbm
        have HBS := hid hbs
        have HCP := hid hcp
        clear hk hbm hbs hcp hbb hbp HRr
        go_wp2_with fail
        (with_reducible refine (clone_any b off cap xs w6 (HCW.out.turned HT6.out hWb id) (by omega) (by have := HT6.out.size; omega)).mono ?_)
        rintro e w7 ⟨v7, rfl, ho7, t7⟩
        have hne7 : xs ≠ [] := HNE.out
        obtain ⟨g7, cap7, hv7, hg7a, hg7b, hc7⟩ := candsAt_of_owns ho7 hne7
        have hfz7 : ∀ j, w7.frozen? ⟨g7, j, none⟩ = false := by rw [hv7] at ho7; exact ho7.frozenAt
        rw [hv7]
        have HT7 := hid (HT6.out.trans t7)
        have hB7 : w7.cell? ⟨B, 0, none⟩ = some (.int .i64 p) := (HT7.out.cell (a := ⟨B, 0, none⟩) hBl id).trans hB
        obtain ⟨f0, f1, f2⟩ := hc7 k c HKc.out
        rw [Nat.zero_add] at f0 f1 f2
        have hgB : ¬ g7 = B := by have := HT6.out.size; omega
        have hgW : W.heap.size ≤ g7 := by have := HT6.out.size; omega
        have HC7 := hid hc7
        have hpk0 := pk_nonneg y 90 (by decide)
        have hpk1 := pk_lt y 90 (by decide)
        have hr9 := HR.out c (List.mem_of_getElem? HKc.out)
        clear ho7 hc7 t7 hv7 d0 d1 d2 HT6 hB6 f0 f2 hne7
        generalize hpk : pk y 90 = M at hpk0 hpk1
        have HPk := hid hpk
        clear hpk
        go_wp2_with fail
        have fz := hfz7 (k * 3 + 1)
        have HC8 : Hid (CandsAt (w7.setCell ⟨g7, k * 3 + 1, none⟩ (.int .i64 (c.2.1 + M))).drew g7 0 (xs.set k (c.1, c.2.1 + M, c.2.2))) := hid (by
          have h := HC7.out.more HKc.out (c.2.1 + M)
          rw [Nat.zero_add] at h
          exact h)
        have HT8 : Hid (Turn (fun _ => False) W (w7.setCell ⟨g7, k * 3 + 1, none⟩ (.int .i64 (c.2.1 + M))).drew) := hid (by
          have hlt : ¬ g7 < W.heap.size := by omega
          exact (HT7.out.setCell _ _ (fun e => absurd e hlt)).drew)
        have hg8 : g7 < (w7.setCell ⟨g7, k * 3 + 1, none⟩ (.int .i64 (c.2.1 + M))).drew.heap.size := by simpa using hg7b
        have HV8 : Hid ((oVictim (xs.set k (c.1, c.2.1 + M, c.2.2))).1 = p) := hid ((more_goes HA.out HKc.out HBM.out HBS.out hr9 hpk0 hpk1).trans HCP.out)
        clear HC7 HT7 hB7 hfz7
        go_region_law (first | (go_simp; go_at_call 9; refine (pick_any y 90 _ (by decide) (by decide)).mono ?_; rintro e w8 ⟨rfl, rfl⟩; rw [HPk.out]))
        all_goals clear f1 fz HPk
        all_goals go_wp2_with fail
        all_goals generalize (w7.setCell ⟨g7, k * 3 + 1, none⟩ (.int .i64 (c.2.1 + M))).drew = w8 at HC8 HT8 hg8 ⊢
        all_goals
          have hB8 : w8.cell? ⟨B, 0, none⟩ = some (.int .i64 p) := (HT8.out.cell (a := ⟨B, 0, none⟩) hBl id).trans hB
          obtain ⟨z0, zs, hz⟩ : ∃ z0 zs, xs.set k (c.1, c.2.1 + M, c.2.2) = z0 :: zs := by
            cases hxs : xs.set k (c.1, c.2.1 + M, c.2.2) with
            | nil => have := congrArg List.length hxs; simp at this; exact absurd this HNE.out
            | cons a l => exact ⟨a, l, rfl⟩
          have hzl : zs.length + 1 = xs.length := by
            have := congrArg List.length hz
            simp at this; omega
          have hc8 := HC8.out
          have hv8 := HV8.out
          rw [hz] at hc8 hv8
          have HVc := hid (victim_some g7 0 cap7 z0 zs w8 hc8 (by omega) hg8)
          rw [hzl, hv8] at HVc
          generalize (oVictim (z0 :: zs)).2 = ok8 at HVc
          clear hc8 hv8 hz hzl HV8 HC8
          (with_reducible refine HVc.out.mono ?_)
          rintro e w9 ⟨rfl, t9⟩
          have HT9 := hid (HT8.out.trans t9)
          have hB9 : w9.cell? ⟨B, 0, none⟩ = some (.int .i64 p) := (HT9.out.cell (a := ⟨B, 0, none⟩) hBl id).trans hB
          clear t9 HT8 hB8 HVc hg8
          go_wp2_with fail
        all_goals
          have HL2 : Hid ((candCells (xs.drop (k + 1))).length = (xs.length - (k + 1)) * 3) := hid (by rw [candCells_len, List.length_drop])
          have HL3 : Hid ((xs.take k).length = k) := hid (by rw [List.length_take]; omega)
          have HCl : Hid (∀ X, Turn (fun _ => False) W X → Calls Try.prog 20 #[.slice (some ⟨b, off, none⟩) k cap] X (ClonedCands (xs.take k) X)) := hid (by
            intro X hX
            have h := clone_any b off cap (xs.take k) X ((HCW.out.turned hX hWb id).take k) (by rw [HL3.out]; omega) (Nat.lt_of_lt_of_le hWb hX.size)
            rw [HL3.out] at h
            exact h)
          have hkc : (k : Int) ≤ cap := by omega
          have hk1 : (k : Int) + 1 ≤ xs.length := by omega
          have hk0 : (0 : Int) ≤ (k : Int) + 1 := by omega
          have hk2 : ((k : Int) + 1).toNat = k + 1 := by omega
          have hk3 : (k : Int) + 1 ≤ cap := by omega
          have hk4 : k ≤ cap := by omega
          have hkk : (k : Int) ≤ (k : Int) + 1 := by omega
          have hkw : IntKind.i64.wrap ((k : Int) + 1) = (k : Int) + 1 := IntWalk.i64_in _ (by omega)
        all_goals
          by_cases hck : cap = k + 1
          · have HCn := hid nil_cells
            have HD : Hid (xs.drop (k + 1) = [] ∧ xs.length - (k + 1) = 0) := hid ⟨List.drop_of_length_le (by omega), by omega⟩
            subst hck
            go_region_law (first | (go_simp; go_at_call 20; refine (HCl.out _ HT9.out.drew).mono ?_; rintro e w10 ⟨v10, rfl, ho10, t10⟩) | (refine step_append_own rfl _ _ 36 rfl _ 38 i0 (.agg #[.int .i64 0, .int .i64 0, .int .i64 0]) 3 24 Try.underlying36 hi hz0 hz1 hz2 rfl (by decide) _ _ _ rfl ho10 ⟨b, off, none⟩ 0 0 [] rfl rfl (HCn.out _ _) nil_one (by rw [HL3.out]; unfold maxLen; omega) (by rw [HL3.out]; omega) t10.size ?_; intro v11 w11 ho11 hg11))
            all_goals have ho11' : w11.ownsRow w9.heap.size 38 3 v11 ((xs.take k).length + (xs.length - (k + 1))) (candCells (xs.take k) ++ candCells (xs.drop (k + 1))) := by rw [HD.out.1, HD.out.2]; exact ho11
            all_goals clear HD
            have HT10 : Hid (Turn (fun _ => False) W w11) := hid ((HT9.out.drew.trans t10).grown hg11 (fun j hj hlt => absurd (ownBlock_ge ho10 hj) (by have := HT9.out.size; simp; omega)))
            have ho12 : ∃ base, W.heap.size ≤ base ∧ w11.ownsRow base 38 3 v11 (xs.length - 1) (candCells (xs.take k ++ xs.drop (k + 1))) := by
              refine ⟨w9.heap.size, ?_, ?_⟩
              rotate_left
              · have e : xs.length - 1 = (xs.take k).length + (xs.length - (k + 1)) := by rw [HL3.out]; omega
                rw [candCells_append, e]
                exact ho11'
              · have := HT9.out.size; exact this
            clear ho10 hg11 ho11 ho11' t10 HCl
            obtain ⟨base, hbase, ho13⟩ := ho12
            by_cases he : xs.take k ++ xs.drop (k + 1) = []
            · have hn1 : xs.length - 1 = 0 := by
                have := congrArg List.length he
                rw [List.length_append, List.length_drop, HL3.out] at this
                simp at this; omega
              obtain ⟨a, cap', hv11⟩ := owns_shape ho13
              rw [hn1] at hv11
              rw [hv11]
              clear ho13 hv11 he hn1
              go_wp2_with fail
              (with_reducible refine (victim_none a cap' w11).mono ?_)
              rintro e w12 ⟨rfl, rfl⟩
              have hB12 : w11.cell? ⟨B, 0, none⟩ = some (.int .i64 p) := (HT10.out.cell (a := ⟨B, 0, none⟩) hBl id).trans hB
              go_wp2_with fail
              go_ret
              exact ⟨rfl, HTB.out.trans HT10.out⟩
            · have hl3 : (xs.take k ++ xs.drop (k + 1)).length = xs.length - 1 := by rw [List.length_append, List.length_drop, HL3.out]; omega
              rw [← hl3] at ho13
              obtain ⟨g9, cap9, hv9, hg9a, hg9b, hc9⟩ := candsAt_of_owns ho13 he
              rw [hl3] at hv9
              rw [hv9]
              obtain ⟨z0, zs, hz⟩ : ∃ z0 zs, xs.take k ++ xs.drop (k + 1) = z0 :: zs := by
                cases hxs : xs.take k ++ xs.drop (k + 1) with
                | nil => exact absurd hxs he
                | cons a l => exact ⟨a, l, rfl⟩
              have hzl : zs.length + 1 = xs.length - 1 := by rw [← hl3, hz]; rfl
              have hless := fun h => less_goes HA.out HKc.out (b := c) h
              rw [hz] at hc9 hless
              have HVc := hid (victim_some g9 0 cap9 z0 zs w11 hc9 (by omega) hg9b)
              rw [hzl] at HVc
              have HLs : Hid ((oVictim (z0 :: zs)).2 = true → (oVictim (z0 :: zs)).1 ≠ p) := hid (fun h => by rw [← HCP.out]; exact hless h)
              generalize (oVictim (z0 :: zs)).2 = ok9 at HVc HLs
              generalize (oVictim (z0 :: zs)).1 = q9 at HVc HLs
              clear hc9 hz hzl hless ho13 hv9 he hl3 hg9b
              go_wp2_with fail
              (with_reducible refine HVc.out.mono ?_)
              rintro e w12 ⟨rfl, t12⟩
              have HT12 := hid (HT10.out.trans t12)
              have hB12 : w12.cell? ⟨B, 0, none⟩ = some (.int .i64 p) := (HT12.out.cell (a := ⟨B, 0, none⟩) hBl id).trans hB
              clear t12 HT10 HVc
              cases ok9
              · go_wp2_with fail
                go_ret
                exact ⟨rfl, HTB.out.trans HT12.out⟩
              · have hq : (q9 != p) = true := bne_iff_ne.2 (HLs.out rfl)
                go_wp2_with fail
                go_ret
                exact ⟨rfl, HTB.out.trans HT12.out⟩
          · have HCn : Hid (∀ X, Turn (fun _ => False) W X → ∀ j u, (candCells (xs.drop (k + 1)))[j]? = some u → X.cell? ((⟨b, off + (k + 1) * 3, none⟩ : Addr).add j) = some u) := hid (fun X hX => ((HCW.out.turned hX hWb id).drop (k + 1)).cell)
            go_region_law (first | (go_simp; go_at_call 20; refine (HCl.out _ HT9.out.drew).mono ?_; rintro e w10 ⟨v10, rfl, ho10, t10⟩) | (refine step_append_own rfl _ _ 36 rfl _ 38 i0 (.agg #[.int .i64 0, .int .i64 0, .int .i64 0]) 3 24 Try.underlying36 hi hz0 hz1 hz2 rfl (by decide) _ _ _ rfl ho10 ⟨b, off + (k + 1) * 3, none⟩ (xs.length - (k + 1)) _ (candCells (xs.drop (k + 1))) rfl HL2.out (HCn.out _ (HT9.out.drew.trans t10)) (candCells_one _) (by rw [HL3.out]; unfold maxLen; omega) (by rw [HL3.out]; omega) t10.size ?_; intro v11 w11 ho11 hg11))
            all_goals have ho11' := ho11
            have HT10 : Hid (Turn (fun _ => False) W w11) := hid ((HT9.out.drew.trans t10).grown hg11 (fun j hj hlt => absurd (ownBlock_ge ho10 hj) (by have := HT9.out.size; simp; omega)))
            have ho12 : ∃ base, W.heap.size ≤ base ∧ w11.ownsRow base 38 3 v11 (xs.length - 1) (candCells (xs.take k ++ xs.drop (k + 1))) := by
              refine ⟨w9.heap.size, ?_, ?_⟩
              rotate_left
              · have e : xs.length - 1 = (xs.take k).length + (xs.length - (k + 1)) := by rw [HL3.out]; omega
                rw [candCells_append, e]
                exact ho11'
              · have := HT9.out.size; exact this
            clear ho10 hg11 ho11 ho11' t10 HCl
            obtain ⟨base, hbase, ho13⟩ := ho12
            by_cases he : xs.take k ++ xs.drop (k + 1) = []
            · have hn1 : xs.length - 1 = 0 := by
                have := congrArg List.length he
                rw [List.length_append, List.length_drop, HL3.out] at this
                simp at this; omega
              obtain ⟨a, cap', hv11⟩ := owns_shape ho13
              rw [hn1] at hv11
              rw [hv11]
              clear ho13 hv11 he hn1
              go_wp2_with fail
              (with_reducible refine (victim_none a cap' w11).mono ?_)
              rintro e w12 ⟨rfl, rfl⟩
              have hB12 : w11.cell? ⟨B, 0, none⟩ = some (.int .i64 p) := (HT10.out.cell (a := ⟨B, 0, none⟩) hBl id).trans hB
              go_wp2_with fail
              go_ret
              exact ⟨rfl, HTB.out.trans HT10.out⟩
            · have hl3 : (xs.take k ++ xs.drop (k + 1)).length = xs.length - 1 := by rw [List.length_append, List.length_drop, HL3.out]; omega
              rw [← hl3] at ho13
              obtain ⟨g9, cap9, hv9, hg9a, hg9b, hc9⟩ := candsAt_of_owns ho13 he
              rw [hl3] at hv9
              rw [hv9]
              obtain ⟨z0, zs, hz⟩ : ∃ z0 zs, xs.take k ++ xs.drop (k + 1) = z0 :: zs := by
                cases hxs : xs.take k ++ xs.drop (k + 1) with
                | nil => exact absurd hxs he
                | cons a l => exact ⟨a, l, rfl⟩
              have hzl : zs.length + 1 = xs.length - 1 := by rw [← hl3, hz]; rfl
              have hless := fun h => less_goes HA.out HKc.out (b := c) h
              rw [hz] at hc9 hless
              have HVc := hid (victim_some g9 0 cap9 z0 zs w11 hc9 (by omega) hg9b)
              rw [hzl] at HVc
              have HLs : Hid ((oVictim (z0 :: zs)).2 = true → (oVictim (z0 :: zs)).1 ≠ p) := hid (fun h => by rw [← HCP.out]; exact hless h)
              generalize (oVictim (z0 :: zs)).2 = ok9 at HVc HLs
              generalize (oVictim (z0 :: zs)).1 = q9 at HVc HLs
              clear hc9 hz hzl hless ho13 hv9 he hl3 hg9b
              go_wp2_with fail
              (with_reducible refine HVc.out.mono ?_)
              rintro e w12 ⟨rfl, t12⟩
              have HT12 := hid (HT10.out.trans t12)
              have hB12 : w12.cell? ⟨B, 0, none⟩ = some (.int .i64 p) := (HT12.out.cell (a := ⟨B, 0, none⟩) hBl id).trans hB
              clear t12 HT10 HVc
              cases ok9
              · go_wp2_with fail
                go_ret
                exact ⟨rfl, HTB.out.trans HT12.out⟩
              · have hq : (q9 != p) = true := bne_iff_ne.2 (HLs.out rfl)
                go_wp2_with fail
                go_ret
                exact ⟨rfl, HTB.out.trans HT12.out⟩

end Go.Proofs.Ytiohpmcedfbcgaa
