/- The laws' fact 'pooled' is true, and turns nothing that was there. No condition. -/
import Derived.Test.YtiohpmcedfbcgabDoorBuddyCount
namespace Go.Proofs.YtiohpmcedfbcgabDoor
open Go.RowKit
set_option linter.unusedVariables false

/-- A pool of the call's own: nothing that was there at w0 has turned. -/
structure PoolOf (w0 w : World) (p mb : Nat) (vs : Nat → Value) (q : Pl) : Prop where
  pool : PoolAt w p mb vs q
  turn : Turn (fun _ => False) w0 w
  new : ∀ k, Foot p mb vs k → w0.heap.size ≤ k
theorem PoolOf.after {w0 w w2 : World} {p mb : Nat} {vs : Nat → Value} {q q2 : Pl} (h : PoolOf w0 w p mb vs q) (h2 : PoolAfter p mb vs w w2 q2) : ∃ vs2, PoolOf w0 w2 p mb vs2 q2 := by
  obtain ⟨vs2, hp, t, g⟩ := h2
  refine ⟨vs2, hp, h.turn.trans' t (fun k hk hf => by have := h.new k hf; omega), fun k hk => ?_⟩
  rcases g k hk with h1 | h1
  · exact h.new k h1
  · exact Nat.le_trans h.turn.size h1
/-- What leaves the pool alone leaves it so. -/
theorem PoolOf.turned {w0 w w2 : World} {p mb : Nat} {vs : Nat → Value} {q : Pl} (h : PoolOf w0 w p mb vs q) (t : Turn (fun _ => False) w w2) : PoolOf w0 w2 p mb vs q :=
  ⟨h.pool.turned t (fun _ _ => id), h.turn.trans t, h.new⟩

theorem listTo_perm {fr fr' : Fr} : ∀ {k : Nat}, (∀ j, j < k → (fr j).Perm (fr' j)) → (listTo fr k).Perm (listTo fr' k)
  | 0, _ => List.Perm.refl _
  | k + 1, h => by
    unfold listTo
    exact (listTo_perm (fun j hj => h j (by omega))).append ((h k (by omega)).map _)

def five : Fr := addTo (addTo (fun _ => []) 2 0) 0 4
theorem good_five : Good 5 five [] := by
  have h1 : Part 5 (0 + sz 2) (addTo (fun _ => []) 2 0) := (Part.start 5).step (by decide) (by decide) (by decide) (by decide) (.inr (by decide))
  have h2 : Part 5 (4 + sz 0) five := Part.step (B := 4) h1 (by decide) (by decide) (by decide) (by decide) (.inr (by decide))
  exact Part.good h2
theorem five_two {fr : Fr} (h : Good 5 fr []) : (listTo fr 7).length = 2 := by
  rw [(listTo_perm (fun j hj => h.same good_five (fun _ => Iff.rfl) hj)).length_eq]; rfl
theorem five_at {fr : Fr} (h : Good 5 fr []) : fr 1 = [] ∧ ∀ b, b ∈ fr 2 ↔ b = 0 := by
  have h1 := h.same good_five (fun _ => Iff.rfl) (k := 1) (by decide)
  have h2 := h.same good_five (fun _ => Iff.rfl) (k := 2) (by decide)
  have e1 : five 1 = [] := rfl
  have e2 : five 2 = [0] := rfl
  rw [e1] at h1
  rw [e2] at h2
  exact ⟨h1.eq_nil, fun b => by rw [h2.mem_iff]; simp⟩

theorem five_alloc {fr : Fr} (h : Good 5 fr []) {k : Nat} {base : Int} (h1 : 1 ≤ k) (h3 : ∀ j, 1 ≤ j → j < k → fr j = []) (h4 : base ∈ fr k) : base = 0 := by
  obtain ⟨e1, e2⟩ := five_at h
  by_cases ka : k = 1
  · subst ka; rw [e1] at h4; cases h4
  · by_cases kb : k = 2
    · subst kb; exact (e2 base).1 h4
    · have := h3 2 (by omega) (by omega)
      have h5 := (e2 0).2 rfl
      rw [this] at h5; cases h5

set_option maxHeartbeats 2000000 in
set_option maxRecDepth 100000 in
theorem pooled_any (w : World) : Calls Tryd.prog 12 #[] w fun e w' => e = .returned (.bool true) ∧ Turn (fun _ => False) w w' := by
  go_enter Tryd.func12, Tryd.ntmps12
  go_wp2_with fail
  refine (new_any 5 w (by decide) (by decide)).mono ?_
  rintro e w1 ⟨p, mb, vs, fr, rfl, hp, hg, ht, hn⟩
  have HP := hid (PoolOf.mk hp ht hn)
  have HG := hid hg
  clear hp ht hn hg
  go_wp2_with fail
  refine (left_is HP.out.pool (fun k hk => by have := HG.out.len (by decide) k hk; show (fr k).length ≤ _; omega)).mono ?_
  rintro e w2 ⟨rfl, rfl⟩
  have hl : leftOf fr = 5 := by rw [HG.out.left (by decide)]; rfl
  rw [hl]
  clear hl
  go_wp2_with fail
  refine (free_any HP.out.pool HG.out (show (5 : Int) ≤ 256 by decide)).mono ?_
  rintro e w2 ⟨l, a, cap, hf, rfl, _, t2⟩
  have hll : l.length = 2 := by rw [hf.1.length_eq]; exact five_two HG.out
  rw [hll]
  have HP2 := hid (HP.out.turned t2)
  clear hll hf t2 HP
  go_wp2_with fail
  refine (alloc_any HP2.out.pool 1 (by decide) HG.out (show (5 : Int) ≤ 256 by decide)).mono ?_
  rintro e w3 (⟨rfl, rfl, hno⟩ | ⟨k, base, fr', hk1, hk7, hk3, hk4, _, rfl, hk6, hg', ha⟩)
  · exfalso
    have h1 := hno 2 (by decide) (by decide)
    have h2 := (five_at HG.out).2 0
    rw [show ({ n := 5, fr := fr, tk := [] } : Pl).fr 2 = fr 2 from rfl] at h1
    rw [h1] at h2
    simp at h2
  · have hb : base = 0 := five_alloc HG.out hk1 hk3 hk4
    subst hb
    obtain ⟨vs3, hp3⟩ := HP2.out.after ha
    have HP3 := hid hp3
    have HG3 : Hid (Good 5 fr' [((0 : Int), 1)]) := hid hg'
    clear ha hp3 hg' hk1 hk7 hk3 hk4 hk6 HP2
    go_wp2_with fail
    refine (left_is HP3.out.pool (fun k hk => by have := HG3.out.len (by decide) k hk; show (fr' k).length ≤ _; omega)).mono ?_
    rintro e w4 ⟨rfl, rfl⟩
    have hl : leftOf fr' = 3 := by rw [HG3.out.left (by decide)]; rfl
    rw [show ({ n := 5, fr := fr', tk := mput [] 0 1 } : Pl).fr = fr' from rfl, hl]
    clear hl
    go_wp2_with fail
    refine (give_ok HP3.out.pool 0 1 rfl HG3.out (show (5 : Int) ≤ 256 by decide)).mono ?_
    rintro e w4 ⟨rfl, fr4, hg4, ha4⟩
    obtain ⟨vs4, hp4⟩ := HP3.out.after ha4
    have HP4 := hid hp4
    have HG4 : Hid (Good 5 fr4 []) := hid hg4
    clear ha4 hp4 hg4 HP3
    go_wp2_with fail
    refine (free_any HP4.out.pool HG4.out (show (5 : Int) ≤ 256 by decide)).mono ?_
    rintro e w5 ⟨l5, a5, cap5, hf5, rfl, _, t5⟩
    have hll : l5.length = 2 := by rw [hf5.1.length_eq]; exact five_two HG4.out
    rw [hll]
    have HT5 := hid (HP4.out.turn.trans t5)
    clear hll hf5 t5
    go_wp2_with fail
    go_ret
    exact ⟨rfl, HT5.out⟩
end Go.Proofs.YtiohpmcedfbcgabDoor
