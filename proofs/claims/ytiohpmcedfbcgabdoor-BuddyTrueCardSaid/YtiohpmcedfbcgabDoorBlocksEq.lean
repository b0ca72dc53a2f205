/- slices.Equal at two slices that hold the same blocks: true. And: what is free is told alike by pools of which the same is taken. Conditions: each theorem's own premises. -/
import Derived.Test.YtiohpmcedfbcgabDoorPooled
import Derived.Deep.QuietTactic
import Derived.BigQuiet
namespace Go.Proofs.YtiohpmcedfbcgabDoor
open Go.RowKit
set_option linter.unusedVariables false

/-- A slice of blocks that lies somewhere. -/
def BlkRow (w : World) (a : Option Addr) (l : List Bk) : Prop := l = [] ∨ ∃ g, a = some ⟨g, 0, none⟩ ∧ g < w.heap.size ∧ BksAt w g 0 l

set_option maxRecDepth 100000 in
theorem equal_same {w : World} (l : List Bk) (a a2 : Option Addr) (cap cap2 : Nat) (hl : l.length ≤ 1000000) (h1 : BlkRow w a l) (h2 : BlkRow w a2 l) :
    Calls Tryd.prog 20 #[.slice a l.length cap, .slice a2 l.length cap2] w fun e w' => e = .returned (.bool true) ∧ Turn (fun _ => False) w w' := by
  have H1 := hid h1
  have H2 := hid h2
  have hne : ((l.length : Int) != l.length) = false := by simp
  clear h1 h2
  go_enter Tryd.func20, Tryd.ntmps20
  go_wp2_with fail
  go_loopw [13] (fun i wr => ∃ j : Nat, j ≤ l.length ∧ i = .int .i64 j ∧ Hid (Turn (fun _ => False) w wr)) (fun i _ => l.length - (intOf i).toNat)
  case atStart => exact ⟨0, Nat.zero_le _, rfl, hid (Turn.refl _ _)⟩
  case round =>
    obtain ⟨j, hj, rfl, hT⟩ := hrel
    by_cases hlt : j < l.length
    · have hlt' : (j : Int) < l.length := by omega
      obtain ⟨⟨t0, t1⟩, ht⟩ : ∃ t, l[j]? = some t := ⟨_, List.getElem?_eq_getElem hlt⟩
      obtain ⟨g, rfl, hg, hb⟩ := H1.out.resolve_left (by rintro rfl; simp at hlt)
      obtain ⟨g2, rfl, hg2, hb2⟩ := H2.out.resolve_left (by rintro rfl; simp at hlt)
      obtain ⟨c0, c1⟩ := (hb.turned hT.out hg id) j _ ht
      obtain ⟨k0, k1⟩ := (hb2.turned hT.out hg2 id) j _ ht
      simp only [Nat.zero_add] at c0 c1 k0 k1
      clear hb hb2 ht
      go_wp2_with fail
      go_quiet (fail)
      go_wp2_with fail
      go_roundw
      case rel => exact ⟨j + 1, by omega, by go_num, hid (hT.out.drewN _)⟩
      case measure => simp [intOf]; omega
    · have hlt' : ¬ (j : Int) < l.length := by omega
      go_wp2_with fail
      go_ret
      exact ⟨rfl, hT.out⟩

theorem FreeOf.eq {n : Int} {fr fr' : Fr} {tk tk' : List Bk} {l l' : List Bk} (hg : Good n fr tk) (hg' : Good n fr' tk') (ht : ∀ t, t ∈ tk ↔ t ∈ tk') (h : FreeOf fr l) (h' : FreeOf fr' l') : l = l' := by
  have hp : l.Perm l' := (h.1.trans (listTo_perm (fun j hj => hg.same hg' ht hj))).trans h'.1.symm
  refine List.Perm.eq_of_pairwise (le := fun s t : Bk => s.1 ≤ t.1) ?_ h.2 h'.2 hp
  intro s t hs ht h1 h2
  have e1 := mem_listTo.1 (h.1.mem_iff.1 hs)
  have e2 := mem_listTo.1 (h.1.mem_iff.1 (hp.mem_iff.2 ht))
  have hb : s.1 = t.1 := by omega
  obtain ⟨s0, s1⟩ := s
  obtain ⟨t0, t1⟩ := t
  simp only at hb e1 e2
  subst hb
  have hps := sz_pos s1
  have hpt := sz_pos t1
  obtain ⟨hk, _⟩ := hg.ff s1 s0 t1 s0 e1.1 e2.1 e1.2 e2.2 ⟨by omega, by omega⟩
  rw [hk]
end Go.Proofs.YtiohpmcedfbcgabDoor
