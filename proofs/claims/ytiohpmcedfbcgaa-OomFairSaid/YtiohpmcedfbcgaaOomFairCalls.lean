/- OomFair's callees: chosen, IndexFunc over the law's closure, Clone. Conditions: each theorem's own premises. -/
import Derived.Test.YtiohpmcedfbcgaaOomChooses
import Derived.Test.YtiohpmcedfbcgaaSteps
namespace Go.Proofs.Ytiohpmcedfbcgaa
open Go.RowKit
set_option linter.unusedVariables false

theorem CandsAt.cell {w : World} {b off : Nat} {l : List Cd} (h : CandsAt w b off l) (j : Nat) (u : Value) (hu : (candCells l)[j]? = some u) : w.cell? ((⟨b, off, none⟩ : Addr).add j) = some u := by
  rw [Addr.add_mid]
  have hj : j < l.length * 3 := by have := (List.getElem?_eq_some_iff.1 hu).1; rwa [candCells_len] at this
  have hi : j / 3 < l.length := by omega
  have hc : l[j / 3]? = some l[j / 3] := List.getElem?_eq_getElem hi
  obtain ⟨a0, a1, a2⟩ := candCells_at l _ _ hc
  obtain ⟨c0, c1, c2⟩ := h _ _ hc
  have hm : j % 3 = 0 ∨ j % 3 = 1 ∨ j % 3 = 2 := by omega
  rcases hm with hm | hm | hm
  · have e : j = j / 3 * 3 := by omega
    rw [← e] at a0 c0
    rw [c0, ← a0, hu]
  · have e : j = j / 3 * 3 + 1 := by omega
    rw [← e] at a1
    rw [show off + j = off + j / 3 * 3 + 1 by omega, c1, ← a1, hu]
  · have e : j = j / 3 * 3 + 2 := by omega
    rw [← e] at a2
    rw [show off + j = off + j / 3 * 3 + 2 by omega, c2, ← a2, hu]
theorem CandsAt.drop {w : World} {b off : Nat} {l : List Cd} (h : CandsAt w b off l) (n : Nat) : CandsAt w b (off + n * 3) (l.drop n) := fun i c hc => by
  rw [List.getElem?_drop] at hc
  have := h (n + i) c hc
  rw [show off + (n + i) * 3 = off + n * 3 + i * 3 by omega] at this
  exact this
theorem CandsAt.take {w : World} {b off : Nat} {l : List Cd} (h : CandsAt w b off l) (n : Nat) : CandsAt w b off (l.take n) := fun i c hc => by
  rw [List.getElem?_take] at hc
  split at hc
  · exact h i c hc
  · cases hc
theorem candCells_one (l : List Cd) : ∀ u ∈ candCells l, u.oneCell' = true := by
  intro u hu
  unfold candCells at hu
  simp only [List.mem_flatMap, List.mem_cons, List.not_mem_nil, or_false] at hu
  obtain ⟨c, _, rfl | rfl | rfl⟩ := hu <;> rfl
theorem candCells_append (l m : List Cd) : candCells (l ++ m) = candCells l ++ candCells m := by simp [candCells]

theorem three_cands (w : World) : CandsAt (w.alloc (.cells #[.int .i64 2, .int .i64 3, .int .i64 0, .int .i64 3, .int .i64 2, .int .i64 60, .int .i64 4, .int .i64 0, .int .i64 0] 38)) w.heap.size 0 [(2, 3, 0), (3, 2, 60), (4, 0, 0)] := by
  intro i c hc
  match i, hc with
  | 0, hc => cases hc; exact ⟨World.cell?_alloc_new _ _ _ _, World.cell?_alloc_new _ _ _ _, World.cell?_alloc_new _ _ _ _⟩
  | 1, hc => cases hc; exact ⟨World.cell?_alloc_new _ _ _ _, World.cell?_alloc_new _ _ _ _, World.cell?_alloc_new _ _ _ _⟩
  | 2, hc => cases hc; exact ⟨World.cell?_alloc_new _ _ _ _, World.cell?_alloc_new _ _ _ _, World.cell?_alloc_new _ _ _ _⟩

set_option maxHeartbeats 1000000 in
set_option maxRecDepth 100000 in
theorem chosen_any (w : World) : Calls Try.prog 17 #[] w fun e w' => e = .returned (.bool true) ∧ Turn (fun _ => False) w w' := by
  go_enter Try.func17, Try.ntmps17
  go_wp2_with fail
  refine (victim_some w.heap.size 0 3 (2, 3, 0) [(3, 2, 60), (4, 0, 0)] _ (three_cands w) (by decide) (by simp)).mono ?_
  rintro e w1 ⟨rfl, t1⟩
  have e1 : (oVictim [(2, 3, 0), (3, 2, 60), (4, 0, 0)]).1 = 3 := by decide
  have e2 : (oVictim [(2, 3, 0), (3, 2, 60), (4, 0, 0)]).2 = true := by decide
  rw [e1, e2]
  clear e1 e2
  go_wp2_with fail
  go_ret
  exact ⟨rfl, ((Turn.refl _ _).alloc _).trans t1⟩

set_option maxHeartbeats 1000000 in
theorem isPid_any (p r a q : Int) (B : Nat) (w : World) (hB : w.cell? ⟨B, 0, none⟩ = some (.int .i64 q)) :
    Calls Try.prog 19 #[.agg #[.int .i64 p, .int .i64 r, .int .i64 a], .pointer (some ⟨B, 0, none⟩)] w fun e w' => e = .returned (.bool (p == q)) ∧ Turn (fun _ => False) w w' := by
  have hlt := lt_of_cell hB
  simp only at hlt
  go_enter Try.func19, Try.ntmps19
  go_wp2
  go_ret
  exact ⟨rfl, (Turn.refl _ _).alloc _⟩

/-- What the search for a number comes to. -/
def FoundPid (xs : List Cd) (q : Int) (w : World) (e : Ending) (w' : World) : Prop :=
  ∃ r : Int, e = .returned (.int .i64 r) ∧ Turn (fun _ => False) w w' ∧ ((r = -1 ∧ ∀ c ∈ xs, c.1 ≠ q) ∨ ∃ (k : Nat) (c : Cd), xs[k]? = some c ∧ c.1 = q ∧ r = k)

set_option maxHeartbeats 2000000 in
set_option maxRecDepth 100000 in
theorem indexPid_any (b off cap : Nat) (xs : List Cd) (q : Int) (B : Nat) (w : World) (hc : CandsAt w b off xs) (hl : xs.length < 1000000) (hb : b < w.heap.size) (hB : w.cell? ⟨B, 0, none⟩ = some (.int .i64 q)) :
    Calls Try.prog 18 #[.slice (some ⟨b, off, none⟩) xs.length cap, .func (.func 19) #[] #[.pointer (some ⟨B, 0, none⟩)]] w (FoundPid xs q w) := by
  have HC := hid hc
  have HB := hid hB
  have hBl := lt_of_cell hB
  simp only at hBl
  clear hc hB
  go_enter Try.func18, Try.ntmps18
  go_wp2_with fail
  go_loopw [8] (fun i wr => ∃ j : Nat, j ≤ xs.length ∧ i = .int .i64 j ∧ Turn (fun _ => False) w wr ∧ ∀ c ∈ xs.take j, c.1 ≠ q) (fun i _ => xs.length - (intOf i).toNat)
  case atStart => exact ⟨0, Nat.zero_le _, rfl, Turn.refl _ _, by simp⟩
  case round =>
    obtain ⟨j, hj, rfl, hT, hno⟩ := hrel
    have HN := hid hno
    by_cases hlt : j < xs.length
    · obtain ⟨c, hcj⟩ : ∃ c, xs[j]? = some c := ⟨_, List.getElem?_eq_getElem hlt⟩
      obtain ⟨d0, d1, d2⟩ := HC.out.turned hT hb id j c hcj
      have hBw : Hid (wr.cell? ⟨B, 0, none⟩ = some (.int .i64 q)) := hid ((hT.cell (a := ⟨B, 0, none⟩) hBl id).trans HB.out)
      have HT := hid hT
      have HJ := hid hcj
      clear hT hcj hno
      by_cases he : c.1 = q
      · have be : (c.1 == q) = true := beq_iff_eq.2 he
        have HE := hid he
        clear he
        go_wp2_with fail
        refine (isPid_any _ _ _ q B wr hBw.out).mono ?_
        rintro e w1 ⟨rfl, t1⟩
        have HT1 := hid (HT.out.trans t1)
        clear t1 HT
        go_wp2_with fail
        go_ret
        exact ⟨j, rfl, HT1.out, .inr ⟨j, c, HJ.out, HE.out, rfl⟩⟩
      · have be : (c.1 == q) = false := beq_eq_false_iff_ne.2 he
        have HE := hid he
        clear he
        go_wp2_with fail
        refine (isPid_any _ _ _ q B wr hBw.out).mono ?_
        rintro e w1 ⟨rfl, t1⟩
        have HT1 := hid (HT.out.trans t1)
        clear t1 HT
        go_wp2_with fail
        go_roundw
        case rel => exact ⟨j + 1, by omega, by go_num, HT1.out, by
          intro x hx
          rw [List.take_add_one, HJ.out] at hx
          rcases List.mem_append.1 hx with hx | hx
          · exact HN.out x hx
          · simp at hx; subst hx; exact HE.out⟩
        case measure => simp [intOf]; omega
    · have hj' : j = xs.length := by omega
      subst hj'
      rw [List.take_length] at HN
      have HT := hid hT
      clear hT hno
      go_wp2_with fail
      go_ret
      exact ⟨-1, rfl, HT.out, .inl ⟨rfl, HN.out⟩⟩

/-- What Clone hands back. -/
def ClonedCands (xs : List Cd) (w : World) (e : Ending) (w' : World) : Prop :=
  ∃ v, e = .returned v ∧ w'.ownsRow w.heap.size 38 3 v xs.length (candCells xs) ∧ Turn (fun _ => False) w w'

set_option maxHeartbeats 1000000 in
set_option maxRecDepth 100000 in
theorem clone_any (b off cap : Nat) (xs : List Cd) (w : World) (hc : CandsAt w b off xs) (hl : xs.length ≤ 1000) (hb : b < w.heap.size) :
    Calls Try.prog 20 #[.slice (some ⟨b, off, none⟩) xs.length cap] w (ClonedCands xs w) := by
  obtain ⟨i0, hi, hz0, hz1, hz2⟩ := info_parts info_cand3
  have HC := hid hc
  clear hc
  have hnil := fun (w : World) => Lib.run_eql_slice_nil (P := Try.prog) (w := w)
  have HO : Hid ((w.alloc (.cells #[] 38)).ownsRow w.heap.size 38 3 (.slice (some ⟨w.heap.size, 0, none⟩) 0 0) 0 []) := hid (World.ownsRow_lit w #[] 0 (Nat.le_refl _) (Nat.zero_le _) rfl)
  have hlen := candCells_len xs
  have HL := hid hlen
  clear hlen
  go_enter Try.func20, Try.ntmps20
  go_wp2_with (at_builtin; refine wpList_append_own _ rfl _ _ 36 rfl w.heap.size 38 i0 (.agg #[.int .i64 0, .int .i64 0, .int .i64 0]) 3 24 Try.underlying36 hi hz0 hz1 hz2 rfl (by decide) _ 0 [] rfl HO.out ⟨b, off, none⟩ xs.length cap (candCells xs) rfl HL.out ?c1 (candCells_one xs) ?c3 ?c4 ?c5 ?_)
  case c1 => exact (HC.out.turned ((Turn.refl (fun _ => False) w).alloc _) hb id).cell
  case c3 => unfold maxLen; omega
  case c4 => omega
  case c5 => simp
  intro v' w1 hown hgrow _
  go_wp2_with fail
  go_ret
  refine ⟨v', rfl, by simpa using hown, ?_⟩
  exact ((Turn.refl (fun _ => False) w).alloc _).grown hgrow (fun k hk hlt => by cases hk; exact absurd hlt (Nat.lt_irrefl _))

end Go.Proofs.Ytiohpmcedfbcgaa
