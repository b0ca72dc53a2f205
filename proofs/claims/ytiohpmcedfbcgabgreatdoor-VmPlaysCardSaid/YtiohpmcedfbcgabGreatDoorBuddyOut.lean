/- Package buddy: out, a free block taken out of its list. Conditions: each theorem's own premises. -/
import Derived.Test.YtiohpmcedfbcgabGreatDoorBuddy
import Derived.Test.YtiohpmcedfbcgabGreatDoorBuddyPlain
import Derived.Deep.RegionWith
import Derived.Deep.RegionHeld3
import Derived.Outline
namespace Go.Proofs.YtiohpmcedfbcgabGreatDoor
open Go.RowKit
set_option linter.unusedVariables false

/-- What a pool is behind a call: in what was its own, or new. -/
def PoolAfter (p mb : Nat) (vs : Nat → Value) (w w' : World) (q : Pl) : Prop :=
  ∃ vs', PoolAt w' p mb vs' q ∧ Turn (Foot p mb vs) w w' ∧ ∀ j, Foot p mb vs' j → Foot p mb vs j ∨ w.heap.size ≤ j

theorem outClosure (b0 : Nat) (b x : Int) (w : World) (h : w.cell? ⟨b0, 0, none⟩ = some (.int .i64 b)) :
    Calls Tryz.prog 209 #[.int .i64 x, .pointer (some ⟨b0, 0, none⟩)] w fun e w' => e = .returned (.bool (x == b)) ∧ w = w' := by
  go_enter Tryz.func209, Tryz.ntmps209
  go_wp2
  go_ret
  exact ⟨rfl, rfl⟩

theorem enter_outClosure (args : Array Value) (w : World) : (callFunc 209 args).run Tryz.prog w = .ok (.enter 209 args) w := by kernel_rfl

set_option maxHeartbeats 1000000 in
theorem out_any {w : World} {p mb : Nat} {vs : Nat → Value} {q : Pl} (h : PoolAt w p mb vs q) (k : Nat) (hk : k < 7) (b : Int) (hl : (q.fr k).length ≤ 1000) :
    Calls Tryz.prog 137 #[.pointer (some ⟨p, 0, none⟩), .int .i64 k, .int .i64 b] w fun e w' => e = .returned (.tuple #[]) ∧ PoolAfter p mb vs w w' ⟨q.n, outOf q.fr k b, q.tk⟩ := by
  have hlt := h.lt
  have hc := h.cf k hk
  have hk' : (k : Int) < 7 := by omega
  have hf := h.fz (1 + k)
  have T0 : Turn (fun _ => False) w (w.alloc (.cells #[.int .i64 b] 3)).drew := ((Turn.refl _ _).alloc _).drew
  have HI : Hid (IntsAt (w.alloc (.cells #[.int .i64 b] 3)).drew (vs k) (q.fr k)) := hid ((h.fi k hk).turned T0 (fun _ _ => id))
  have HR : Hid (Reads1 (w.alloc (.cells #[.int .i64 b] 3)).drew (fun j => (vs k).ownBlock = some j) 209 #[.pointer (some ⟨w.heap.size, 0, none⟩)] (fun x => x == b)) := hid (fun w1 x t => by
    refine (outClosure w.heap.size b x w1 ?_).mono ?_
    · rw [t.cell (a := ⟨w.heap.size, 0, none⟩) (by simp) (fun e => by have := ((h.fi k hk).lt _ e).2; simp only at this; omega)]
      simp
    · rintro e w' ⟨rfl, rfl⟩
      exact ⟨rfl, Turn.refl _ _⟩)
  have HCK : ∀ w1, Turn (fun j => (vs k).ownBlock = some j) (w.alloc (.cells #[.int .i64 b] 3)).drew w1 → w1.cell? ⟨p, 1 + k, none⟩ = some (vs k) ∧ w1.frozen? ⟨p, 1 + k, none⟩ = false := fun w1 t =>
    ⟨((T0.mono fun _ _ h => h.elim).trans t |>.cell (a := ⟨p, 1 + k, none⟩) h.lt (fun e => ((h.np k hk) p e).1 rfl)).trans hc, ((T0.mono fun _ _ h => h.elim).trans t |>.frozen (a := ⟨p, 1 + k, none⟩) h.lt (fun e => ((h.np k hk) p e).1 rfl)).trans hf⟩
  have HCK := hid HCK
  have HD := hid (deleteFunc_ints HI.out (by omega) _ _ _ enter_outClosure HR.out)
  have H := hid h
  clear h
  go_enter Tryz.func137, Tryz.ntmps137
  go_wp2_with fail
  go_region_with (go_at_call 208; refine HD.out.mono ?_; rintro e w1 ⟨v', rfl, hi, ho, t1⟩; obtain ⟨a1, z1, rfl⟩ := hi.slice; have HI1 := hid hi; have HO1 := hid ho; have HT1 := hid t1; obtain ⟨hc1, hf1⟩ := HCK.out w1 t1; clear hi ho t1)
  all_goals go_wp2_with fail
  all_goals go_end0
  all_goals (refine ⟨rfl, ?_⟩)
  all_goals
    have hs := H.out.swap k hk ((T0.mono fun _ _ h => h.elim).trans HT1.out) _ _ HI1.out (fun g hg => .inl (by rw [← HO1.out]; exact hg))
    exact ⟨_, hs.1, hs.2⟩
end Go.Proofs.YtiohpmcedfbcgabGreatDoor
