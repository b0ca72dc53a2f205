/- The document's pool in memory: what it is, and its Left, and whole. Conditions: each theorem's own premises. -/
import Derived.Test.YtiohpmcedfbcgabDoorPlaysPlain
import Derived.Deep.LoopGhost
import Derived.Outline
namespace Go.Proofs.YtiohpmcedfbcgabDoor
open Go.RowKit
set_option linter.unusedVariables false

theorem between (n lo hi : Int) (w : World) : Calls Tryd.prog 107 #[.int .i64 n, .int .i64 lo, .int .i64 hi] w fun e w' => e = .returned (.bool (decide (lo ≤ n ∧ n ≤ hi))) ∧ w = w' := by
  by_cases h1 : lo ≤ n
  · by_cases h2 : n ≤ hi
    · have e : decide (lo ≤ n ∧ n ≤ hi) = true := decide_eq_true ⟨h1, h2⟩
      rw [e]
      go_enter Tryd.func107, Tryd.ntmps107
      go_wp2
      go_ret
      exact ⟨rfl, rfl⟩
    · have e : decide (lo ≤ n ∧ n ≤ hi) = false := decide_eq_false (fun h => h2 h.2)
      rw [e]
      have h2' : decide (n ≤ hi) = false := decide_eq_false h2
      clear e h2
      go_enter Tryd.func107, Tryd.ntmps107
      go_wp2
      go_ret
      exact ⟨rfl, rfl⟩
  · have e : decide (lo ≤ n ∧ n ≤ hi) = false := decide_eq_false (fun h => h1 h.1)
    rw [e]
    have h1' : decide (lo ≤ n) = false := decide_eq_false h1
    clear e h1
    go_enter Tryd.func107, Tryd.ntmps107
    go_wp2
    go_ret
    exact ⟨rfl, rfl⟩

/-- The document's pool lies at p: which of n frames are free in fb, which blocks are taken in mb. -/
structure RefAt (w : World) (p fb mb cp n : Nat) (g : Bits) (tk : List Bk) : Prop where
  c0 : w.cell? ⟨p, 0, none⟩ = some (.slice (some ⟨fb, 0, none⟩) n cp)
  c1 : w.cell? ⟨p, 1, none⟩ = some (.map (some mb))
  row : ∀ f, f < n → w.cell? ⟨fb, f, none⟩ = some (.bool (g f))
  fz : ∀ f, w.frozen? ⟨fb, f, none⟩ = false
  mp : MapIs w mb (.int .i64) encI (fun n : Nat => Value.int .i64 (n : Int)) tk
  lt : fb < w.heap.size
  ne : p ≠ fb ∧ p ≠ mb ∧ fb ≠ mb
def RefFoot (p fb mb : Nat) (k : Nat) : Prop := k = p ∨ k = fb ∨ k = mb
theorem RefAt.turned {S : Nat → Prop} {w w' : World} {p fb mb cp n : Nat} {g : Bits} {tk : List Bk} (h : RefAt w p fb mb cp n g tk) (t : Turn S w w') (hn : ∀ k, RefFoot p fb mb k → ¬ S k) : RefAt w' p fb mb cp n g tk :=
  ⟨(t.cell (a := ⟨p, 0, none⟩) (lt_of_cell h.c0) (hn p (.inl rfl))).trans h.c0,
   (t.cell (a := ⟨p, 1, none⟩) (lt_of_cell h.c1) (hn p (.inl rfl))).trans h.c1,
   fun f hf => (t.cell (a := ⟨fb, f, none⟩) h.lt (hn fb (.inr (.inl rfl)))).trans (h.row f hf),
   fun f => (t.frozen (a := ⟨fb, f, none⟩) h.lt (hn fb (.inr (.inl rfl)))).trans (h.fz f),
   h.mp.turned t (hn mb (.inr (.inr rfl))), Nat.lt_of_lt_of_le h.lt t.size, h.ne⟩
theorem RefAt.set {w : World} {p fb mb cp n : Nat} {g : Bits} {tk : List Bk} (h : RefAt w p fb mb cp n g tk) (f : Nat) (hf : f < n) (v : Bool) : RefAt (w.setCell ⟨fb, f, none⟩ (.bool v)) p fb mb cp n (fun j => if j = f then v else g j) tk := by
  have t : Turn (fun j => j = fb) w (w.setCell ⟨fb, f, none⟩ (.bool v)) := (Turn.refl _ _).setCell _ _ (fun _ => rfl)
  refine ⟨(t.cell (a := ⟨p, 0, none⟩) (lt_of_cell h.c0) h.ne.1).trans h.c0, (t.cell (a := ⟨p, 1, none⟩) (lt_of_cell h.c1) h.ne.1).trans h.c1, fun j hj => ?_, fun j => ?_, h.mp.turned t (fun e => h.ne.2.2 e.symm), Nat.lt_of_lt_of_le h.lt t.size, h.ne⟩
  · by_cases e : j = f
    · subst e
      rw [if_pos rfl]
      exact World.cell?_setCell_same _ _ _ (h.row j hj)
    · rw [if_neg e, World.cell?_setCell_other _ _ _ _ (by simp)]
      exact h.row j hj
  · rw [World.frozen?_setCell]
    exact h.fz j
theorem RefAt.mapped {w w1 : World} {p fb mb cp n : Nat} {g : Bits} {tk : List Bk} (h : RefAt w p fb mb cp n g tk) (t : Turn (fun k => k = mb) w w1) (m : List Bk) (hm : MapIs w1 mb (.int .i64) encI (fun n : Nat => Value.int .i64 (n : Int)) m) : RefAt w1 p fb mb cp n g m :=
  ⟨(t.cell (a := ⟨p, 0, none⟩) (lt_of_cell h.c0) h.ne.2.1).trans h.c0,
   (t.cell (a := ⟨p, 1, none⟩) (lt_of_cell h.c1) h.ne.2.1).trans h.c1,
   fun f hf => (t.cell (a := ⟨fb, f, none⟩) h.lt h.ne.2.2).trans (h.row f hf),
   fun f => (t.frozen (a := ⟨fb, f, none⟩) h.lt h.ne.2.2).trans (h.fz f),
   hm, Nat.lt_of_lt_of_le h.lt t.size, h.ne⟩

set_option maxRecDepth 100000 in
theorem refLeft_is {w : World} {p fb mb cp n : Nat} {g : Bits} {tk : List Bk} (h : RefAt w p fb mb cp n g tk) (hn : n ≤ 256) :
    Calls Tryd.prog 29 #[.pointer (some ⟨p, 0, none⟩)] w fun e w' => e = .returned (.int .i64 (cntFree n g)) ∧ w = w' := by
  have H := hid h
  have c0 := h.c0
  clear h
  go_enter Tryd.func29, Tryd.ntmps29
  go_wp2_with fail
  go_loop [3, 11] (fun c i => ∃ j : Nat, j ≤ n ∧ i = .int .i64 j ∧ c = .int .i64 (cntFree j g)) (fun _ i => n - (intOf i).toNat)
  case atStart => exact ⟨0, Nat.zero_le _, rfl, rfl⟩
  case round =>
    obtain ⟨j, hj, rfl, rfl⟩ := hrel
    by_cases hlt : j < n
    · have hlt' : (j : Int) < n := by omega
      have hc := H.out.row j hlt
      have hcl := cntFree_le j g
      cases hg : g j with
      | true =>
        rw [hg] at hc
        have hm := cntFree_more j g
        rw [hg, if_pos rfl] at hm
        have HM := hid hm
        clear hm hg
        go_wp2_with fail
        go_round
        case rel => exact ⟨j + 1, by omega, by go_num, by rw [HM.out]; go_num⟩
        case measure => simp [intOf]; omega
      | false =>
        rw [hg] at hc
        have hm := cntFree_more j g
        rw [hg, if_neg (by simp)] at hm
        have HM := hid hm
        clear hm hg
        go_wp2_with fail
        go_round
        case rel => exact ⟨j + 1, by omega, by go_num, by rw [HM.out]⟩
        case measure => simp [intOf]; omega
    · obtain rfl : j = n := by omega
      go_wp2_with fail
      go_ret
      exact ⟨rfl, rfl⟩

def WholeRes (n : Nat) (g : Bits) (b : Int) (o : Nat) (w : World) (e : Ending) (w' : World) : Prop :=
  w = w' ∧ ((e = .returned (.bool true) ∧ AllFree n g b o) ∨ (e = .returned (.bool false) ∧ ¬ AllFree n g b o))
set_option maxRecDepth 100000 in
theorem whole_is {w : World} {p fb mb cp n : Nat} {g : Bits} {tk : List Bk} (h : RefAt w p fb mb cp n g tk) (hn : n ≤ 256) (b : Nat) (hb : b ≤ 256) (o : Nat) (ho : o ≤ 6) :
    Calls Tryd.prog 106 #[.pointer (some ⟨p, 0, none⟩), .int .i64 b, .int .i64 o] w (WholeRes n g b o w) := by
  have H := hid h
  have c0 := h.c0
  have hs := wrap_sz64 ⟨o, by omega⟩
  simp only at hs
  have hsp := sz_pos o
  have hsl := sz_le ho
  have ho' : ¬ (o : Int) < 0 := by omega
  clear h
  go_enter Tryd.func106, Tryd.ntmps106
  go_wp2_with fail
  go_loop [7] (fun i => ∃ j : Nat, b ≤ j ∧ (j : Int) ≤ b + sz o ∧ i = .int .i64 j ∧ Hid (∀ f : Nat, b ≤ f → f < j → f < n ∧ g f = true)) (fun i => 1000 - (intOf i).toNat)
  case atStart => exact ⟨b, Nat.le_refl _, by omega, rfl, hid (fun f h1 h2 => by omega)⟩
  case round =>
    obtain ⟨j, hbj, hj, rfl, hA⟩ := hrel
    by_cases hlt : (j : Int) < b + sz o
    · by_cases hjn : j < n
      · have hjn' : (j : Int) < n := by omega
        have hc := H.out.row j hjn
        cases hg : g j with
        | true =>
          rw [hg] at hc
          have HG := hid hg
          clear hg
          go_wp2_with fail
          go_round
          case rel => exact ⟨j + 1, by omega, by omega, by go_num, hid (fun f h1 h2 => by
            by_cases e : f = j
            · subst e; exact ⟨hjn, HG.out⟩
            · exact hA.out f h1 (by omega))⟩
          case measure => simp [intOf]; omega
        | false =>
          rw [hg] at hc
          have HG := hid hg
          clear hg
          go_wp2_with fail
          go_ret
          refine ⟨rfl, .inr ⟨rfl, fun h => ?_⟩⟩
          have := (h j (by omega) hlt).2
          rw [HG.out] at this
          cases this
      · have hjn' : (n : Int) ≤ j := by omega
        go_wp2_with fail
        go_ret
        refine ⟨rfl, .inr ⟨rfl, fun h => ?_⟩⟩
        have := (h j (by omega) hlt).1
        omega
    · go_wp2_with fail
      go_ret
      exact ⟨rfl, .inl ⟨rfl, fun f h1 h2 => hA.out f (by omega) (by omega)⟩⟩
end Go.Proofs.YtiohpmcedfbcgabDoor
