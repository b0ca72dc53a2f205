/- OomChooses: the law's walk: for every list of candidates the call returns true. Conditions: each theorem's own premises. -/
import Derived.Test.YtiohpmcedfbcgaaOomRef
namespace Go.Proofs.Ytiohpmcedfbcgaa
open Go.RowKit
set_option linter.unusedVariables false

/-- A list of candidates as cells. -/
def candCells (l : List Cd) : List Value := l.flatMap fun c => [.int .i64 c.1, .int .i64 c.2.1, .int .i64 c.2.2]
theorem candCells_len (l : List Cd) : (candCells l).length = l.length * 3 := by
  induction l with
  | nil => rfl
  | cons c l ih => simp only [candCells, List.flatMap_cons, List.length_append, List.length_cons, List.length_nil] at *; omega
theorem candCells_snoc (l : List Cd) (c : Cd) : candCells (l ++ [c]) = candCells l ++ [.int .i64 c.1, .int .i64 c.2.1, .int .i64 c.2.2] := by simp [candCells]
theorem candCells_at (l : List Cd) (i : Nat) (c : Cd) (h : l[i]? = some c) : (candCells l)[i * 3]? = some (.int .i64 c.1) ∧ (candCells l)[i * 3 + 1]? = some (.int .i64 c.2.1) ∧ (candCells l)[i * 3 + 2]? = some (.int .i64 c.2.2) := by
  induction l generalizing i with
  | nil => simp at h
  | cons d l ih =>
    cases i with
    | zero => simp at h; subst h; exact ⟨rfl, rfl, rfl⟩
    | succ i =>
      have := ih i (by simpa using h)
      have e : ∀ k, (candCells (d :: l))[(i + 1) * 3 + k]? = (candCells l)[i * 3 + k]? := fun k => by
        show ([Value.int .i64 d.1, Value.int .i64 d.2.1, Value.int .i64 d.2.2] ++ candCells l)[(i + 1) * 3 + k]? = _
        rw [List.getElem?_append_right (by simp; omega)]
        congr 1
        simp; omega
      exact ⟨(e 0).trans this.1, (e 1).trans this.2.1, (e 2).trans this.2.2⟩

/-- An owned row of candidates is a list of candidates at its block. -/
theorem candsAt_of_owns {w : World} {base : Nat} {e : TypeId} {v : Value} {l : List Cd} (h : w.ownsRow base e 3 v l.length (candCells l)) (hne : l ≠ []) :
    ∃ g cap, v = .slice (some ⟨g, 0, none⟩) l.length cap ∧ base ≤ g ∧ g < w.heap.size ∧ CandsAt w g 0 l := by
  have h' := h
  obtain ⟨_, h0 | ⟨g, cap, cur, rfl, hb, hg, _⟩⟩ := h
  · exact absurd (List.length_eq_zero_iff.1 h0.2) hne
  · refine ⟨g, cap, rfl, hb, (Array.getElem?_eq_some_iff.1 hg).1, fun i c hc => ?_⟩
    have hi : i < l.length := (List.getElem?_eq_some_iff.1 hc).1
    obtain ⟨a0, a1, a2⟩ := candCells_at l i c hc
    exact ⟨by rw [Nat.zero_add, h'.cellAt _ (by omega)]; exact a0, by rw [Nat.zero_add, h'.cellAt _ (by omega)]; exact a1, by rw [Nat.zero_add, h'.cellAt _ (by omega)]; exact a2⟩

theorem info_cand3 : (Try.prog.info? 38).map (fun i => (i.zero, i.size, i.bytes)) = some (some (.agg #[.int .i64 0, .int .i64 0, .int .i64 0]), 3, 24) := by kernel_rfl

theorem chooses_many (a : Option Addr) (n cap : Nat) (w : World) (h : 40 < n) (hm : n ≤ 9223372036854775807) :
    Calls Try.prog 4 #[.slice a n cap] w fun e w' => e = .returned (.bool true) ∧ Turn (fun _ => False) w w' := by
  have h' : (40 : Int) < n := by omega
  go_enter Try.func4, Try.ntmps4
  go_wp2
  go_ret
  exact ⟨rfl, Turn.refl _ _⟩

theorem chooses_none (a : Option Addr) (cap : Nat) (w : World) :
    Calls Try.prog 4 #[.slice a 0 cap] w fun e w' => e = .returned (.bool true) ∧ Turn (fun _ => False) w w' := by
  go_enter Try.func4, Try.ntmps4
  go_wp2_with fail
  refine wp_loop_rounds 1 ?_
  rw [rounds_succ]
  go_wp2_with fail
  refine (refVictim_none a cap w).mono ?_
  rintro e w1 ⟨rfl, rfl⟩
  go_wp2_with fail
  refine (victim_none none 0 w).mono ?_
  rintro e w1 ⟨rfl, rfl⟩
  go_wp2_with fail
  go_ret
  exact ⟨rfl, Turn.refl _ _⟩

set_option maxHeartbeats 2000000 in
set_option maxRecDepth 100000 in
theorem chooses_some (b off cap : Nat) (xs : List Cd) (w : World) (hc : CandsAt w b off xs) (hl : xs.length ≤ 40) (hne : xs ≠ []) (hb : b < w.heap.size) :
    Calls Try.prog 4 #[.slice (some ⟨b, off, none⟩) xs.length cap] w fun e w' => e = .returned (.bool true) ∧ Turn (fun _ => False) w w' := by
  obtain ⟨i0, hi, hz0, hz1, hz2⟩ := info_parts info_cand3
  have HC := hid hc
  have HNE := hid hne
  have hl' : (xs.length : Int) ≤ 40 := by omega
  have hpos : 0 < xs.length := List.length_pos_iff.2 hne
  clear hc hne
  go_enter Try.func4, Try.ntmps4
  go_wp2_with fail
  go_loopw [3, 4] (fun v i wr => ∃ j : Nat, j ≤ xs.length ∧ i = .int .i64 j ∧ wr.ownsRow w.heap.size 38 3 v j (candCells (xs.take j)) ∧ Turn (fun _ => False) w wr) (fun _ i _ => xs.length - (intOf i).toNat)
  case atStart => exact ⟨0, Nat.zero_le _, rfl, World.ownsRow_nil _ _ _ _, Turn.refl _ _⟩
  case round =>
    obtain ⟨j, hj, rfl, hown, hT⟩ := hrel
    by_cases hlt : j < xs.length
    · obtain ⟨c, hcj⟩ : ∃ c, xs[j]? = some c := ⟨_, List.getElem?_eq_getElem hlt⟩
      have HS : Hid (candCells (xs.take (j + 1)) = candCells (xs.take j) ++ [.int .i64 c.1, .int .i64 c.2.1, .int .i64 c.2.2]) := hid (by rw [List.take_add_one, hcj]; exact candCells_snoc _ _)
      obtain ⟨d0, d1, d2⟩ := HC.out.turned hT hb id j c hcj
      have HT := hid hT
      have HO := hid hown
      clear hcj hT hown
      go_wp2_with (at_builtin; refine wpList_append_own _ rfl _ _ 36 rfl w.heap.size 38 i0 (.agg #[.int .i64 0, .int .i64 0, .int .i64 0]) 3 24 Try.underlying36 hi hz0 hz1 hz2 rfl (by decide) _ _ _ rfl (HO.out.alloc _) ⟨wr.heap.size, 0, none⟩ 1 1 [.int .i64 c.1, .int .i64 c.2.1, .int .i64 c.2.2] rfl rfl ?c1 ?c2 ?c3 ?c4 ?c5 ?_)
      case c1 =>
        intro l u hu
        rw [Addr.add_mid, Nat.zero_add, World.cell?_alloc_new]
        match l, hu with
        | 0, hu => exact hu
        | 1, hu => exact hu
        | 2, hu => exact hu
      case c2 =>
        intro u hu
        simp only [List.mem_cons, List.not_mem_nil, or_false] at hu
        rcases hu with rfl | rfl | rfl <;> rfl
      case c3 => unfold maxLen; omega
      case c4 => omega
      case c5 => have := HT.out.size; simp; omega
      intro v' w1 hown1 hgrow _
      have HO1 : Hid (w1.ownsRow w.heap.size 38 3 v' (j + 1) (candCells (xs.take (j + 1)))) := hid (by rw [HS.out]; exact hown1)
      have HT1 := hid (HT.out.appended HO.out (Nat.le_refl _) hgrow)
      clear hown1 hgrow HO HT HS d0 d1 d2
      go_wp2_with fail
      go_roundw
      case rel => exact ⟨j + 1, by omega, by go_num, HO1.out, HT1.out⟩
      case measure => simp [intOf]; omega
    · have hj' : j = xs.length := by omega
      subst hj'
      rw [List.take_length] at hown
      obtain ⟨g, cap', rfl, hg0, hg1, hcg⟩ := candsAt_of_owns hown HNE.out
      have HG := hid hcg
      have HT := hid hT
      clear hown hcg hT
      obtain ⟨x0, ys, hx⟩ : ∃ x0 ys, xs = x0 :: ys := by
        cases hxs : xs with
        | nil => exact absurd hxs HNE.out
        | cons a l => exact ⟨a, l, rfl⟩
      subst hx
      go_wp2_with fail
      refine (refVictim_some b off cap (x0 :: ys) wr (HC.out.turned HT.out hb id) (by omega) (by have := HT.out.size; omega)).mono ?_
      rintro e w1 ⟨rfl, t1⟩
      go_wp2_with fail
      refine (victim_some g 0 cap' x0 ys w1 (HG.out.turned t1 hg1 id) (by simp at hl; omega) (by have := t1.size; omega)).mono ?_
      rintro e w2 ⟨rfl, t2⟩
      have ha := victim_agree (x0 :: ys)
      have HA1 : (oVictim (x0 :: ys)).1 = (refBest (x0 :: ys)).2 := by rw [ha]
      have HA2 : (oVictim (x0 :: ys)).2 = decide (0 < (refBest (x0 :: ys)).1) := by rw [ha]
      rw [HA1, HA2]
      clear ha HA1 HA2
      have HT2 := hid ((HT.out.trans t1).trans t2)
      clear t1 t2 HT
      generalize (refBest (x0 :: ys)).2 = A
      generalize decide (0 < (refBest (x0 :: ys)).1) = B
      go_wp2_with fail
      go_ret
      exact ⟨by simp, HT2.out⟩

end Go.Proofs.Ytiohpmcedfbcgaa
