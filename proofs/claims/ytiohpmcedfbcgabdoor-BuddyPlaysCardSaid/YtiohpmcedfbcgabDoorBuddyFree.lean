/- Package buddy: Free tells the free blocks, by their first frames. Conditions: the pool is good, of at most 256 frames. -/
import Derived.Test.YtiohpmcedfbcgabDoorBuddyNew
import Derived.Test.YtiohpmcedfbcgabDoorBlocksSort
namespace Go.Proofs.YtiohpmcedfbcgabDoor
open Go.RowKit
set_option linter.unusedVariables false

/-- The free blocks of orders below k, list by list. -/
def listTo (fr : Fr) : Nat → List Bk
  | 0 => []
  | k + 1 => listTo fr k ++ (fr k).map fun b => (b, k)
theorem mem_listTo {fr : Fr} : ∀ {k : Nat} {t : Bk}, t ∈ listTo fr k ↔ t.2 < k ∧ t.1 ∈ fr t.2
  | 0, t => by simp [listTo]
  | k + 1, t => by
    unfold listTo
    rw [List.mem_append, mem_listTo, List.mem_map]
    constructor
    · rintro (⟨h1, h2⟩ | ⟨b, hb, rfl⟩)
      · exact ⟨by omega, h2⟩
      · exact ⟨by simp, hb⟩
    · rintro ⟨h1, h2⟩
      by_cases e : t.2 = k
      · exact .inr ⟨t.1, by rw [← e]; exact h2, by rw [← e]⟩
      · exact .inl ⟨by omega, h2⟩
theorem listTo_len {fr : Fr} (h : ∀ k, k < 7 → (fr k).length ≤ 256) : ∀ {k : Nat}, k ≤ 7 → (listTo fr k).length ≤ 256 * k
  | 0, _ => by simp [listTo]
  | k + 1, hk => by
    have h1 := listTo_len h (k := k) (by omega)
    have h2 := h k (by omega)
    unfold listTo
    rw [List.length_append, List.length_map]
    omega

def FreeOf (fr : Fr) (l : List Bk) : Prop := l.Perm (listTo fr 7) ∧ l.Pairwise fun s t => s.1 ≤ t.1
def FreeRes (fr : Fr) (w : World) (e : Ending) (w' : World) : Prop :=
  ∃ (l : List Bk) (a : Option Addr) (cap : Nat), FreeOf fr l ∧ e = .returned (.slice a l.length cap) ∧ (l = [] ∨ ∃ g, a = some ⟨g, 0, none⟩ ∧ w.heap.size ≤ g ∧ g < w'.heap.size ∧ BksAt w' g 0 l) ∧ Turn (fun _ => False) w w'

theorem seven_is (vs : Nat → Value) (k : Nat) (hk : k < 7) (w : World) : (Instr.index 144 (.agg #[vs 0, vs 1, vs 2, vs 3, vs 4, vs 5, vs 6]) (.int .i64 k)).run Tryd.prog w = .ok (vs k) w := by
  obtain ⟨i0, i1, i2, i3, i4, i5, i6⟩ := seven_at (vs 0) (vs 1) (vs 2) (vs 3) (vs 4) (vs 5) (vs 6) w
  match k, hk with
  | 0, _ => exact i0
  | 1, _ => exact i1
  | 2, _ => exact i2
  | 3, _ => exact i3
  | 4, _ => exact i4
  | 5, _ => exact i5
  | 6, _ => exact i6

set_option maxRecDepth 100000 in
set_option maxHeartbeats 4000000 in
theorem free_any {w : World} {p mb : Nat} {vs : Nat → Value} {q : Pl} (h : PoolAt w p mb vs q) (hg : Good q.n q.fr q.tk) (hn : q.n ≤ 256) :
    Calls Tryd.prog 16 #[.pointer (some ⟨p, 0, none⟩)] w (FreeRes q.fr w) := by
  have hl : ∀ k, k < 7 → (q.fr k).length ≤ 256 := fun k hk => hg.len hn k hk
  have HLen := hid hl
  have c0 := h.cf 0 (by decide)
  have c1 := h.cf 1 (by decide)
  have c2 := h.cf 2 (by decide)
  have c3 := h.cf 3 (by decide)
  have c4 := h.cf 4 (by decide)
  have c5 := h.cf 5 (by decide)
  have c6 := h.cf 6 (by decide)
  simp only [Nat.add_zero] at c0 c1 c2 c3 c4 c5 c6
  have H := hid h
  have HG := hid hg
  clear h hl hg
  go_enter Tryd.func16, Tryd.ntmps16
  go_wp2_with fail
  go_loopw [3, 12] (fun v i wr => ∃ k : Nat, k ≤ 7 ∧ i = .int .i64 k ∧ Hid (BlksAt wr v (listTo q.fr k)) ∧ Hid (∀ g, v.ownBlock = some g → w.heap.size ≤ g) ∧ Hid (Turn (fun _ => False) w wr)) (fun _ i _ => 7 - (intOf i).toNat)
  case atStart => exact ⟨0, Nat.zero_le _, rfl, hid (BlksAt.empty w), hid (fun g h => by cases h), hid (Turn.refl _ _)⟩
  case round =>
    obtain ⟨k, hk, rfl, hB, hO, hT⟩ := hrel
    by_cases hk7 : k < 7
    · have hk7' : (k : Int) < 7 := by omega
      obtain ⟨a1, z1, e1⟩ := (H.out.fi k hk7).slice
      have hix := seven_is vs k hk7 wr
      rw [e1] at hix
      have HE := hid e1
      clear e1
      have hlk := HLen.out k hk7
      go_wp2_with fail
      obtain ⟨wo, rfl⟩ : ∃ wo : World, wo = wr := ⟨_, rfl⟩
      go_loopw [3, 18] (fun v i wr => ∃ j : Nat, j ≤ (q.fr k).length ∧ i = .int .i64 j ∧ Hid (BlksAt wr v (listTo q.fr k ++ ((q.fr k).take j).map fun b => (b, k))) ∧ Hid (∀ g, v.ownBlock = some g → w.heap.size ≤ g) ∧ Hid (Turn (fun _ => False) w wr)) (fun _ i _ => (q.fr k).length - (intOf i).toNat)
      case atStart => exact ⟨0, Nat.zero_le _, rfl, hid (by simpa using hB.out), hO, hT⟩
      case round =>
        clear hB hO hT
        obtain ⟨j, hj, rfl, hB, hO, hT⟩ := hrel
        by_cases hlt : j < (q.fr k).length
        · obtain ⟨b, hb⟩ : ∃ b, (q.fr k)[j]? = some b := ⟨_, List.getElem?_eq_getElem hlt⟩
          obtain ⟨g, rfl⟩ : ∃ g, a1 = some ⟨g, 0, none⟩ := by
            rcases (H.out.fi k hk7).shape with ⟨_, h0⟩ | ⟨g, cap, h0, _⟩
            · rw [h0] at hlt; simp at hlt
            · rw [HE.out] at h0; cases h0; exact ⟨g, rfl⟩
          have hfi := H.out.fi k hk7
          rw [HE.out] at hfi
          have hc := (hfi.turned hT.out (fun _ _ => id)).cell j b hb
          have HB := hid hb
          clear hb hfi
          have HO1 : Hid (BlksAt (wr.alloc (.cells #[.int .i64 b, .int .i64 (k : Int)] 36)) u3 (listTo q.fr k ++ ((q.fr k).take j).map fun b => (b, k))) := hid (hB.out.turned ((Turn.refl (fun _ => False) _).alloc _) (fun _ _ => id))
          have HC1 : Hid (BksAt (wr.alloc (.cells #[.int .i64 b, .int .i64 (k : Int)] 36)) wr.heap.size 0 [(b, k)]) := hid (fun i t ht => by
            cases i with
            | zero => simp at ht; subst ht; exact ⟨by simp, by simp⟩
            | succ i => simp at ht)
          have hll : (listTo q.fr k ++ ((q.fr k).take j).map fun b => (b, k)).length ≤ 3000 := by
            have h1 := listTo_len HLen.out (k := k) (by omega)
            rw [List.length_append, List.length_map, List.length_take]
            omega
          have hl1 : (listTo q.fr k ++ ((q.fr k).take j).map fun b => (b, k)).length + [((b, k) : Bk)].length ≤ 1000000 := by
            rw [List.length_singleton]; omega
          have HLL := hid hl1
          have HM1 : Hid (0 < [((b, k) : Bk)].length ∨ u3 ≠ .slice none 0 0) := hid (.inl (by simp))
          have HN3 : Hid ((listTo q.fr k ++ ((q.fr k).take j).map fun b => (b, k)).length + [((b, k) : Bk)].length = (listTo q.fr k).length + j + 1) := hid (by rw [List.length_append, List.length_map, List.length_take, List.length_singleton, Nat.min_eq_left hj])
          clear hll hl1
          go_wp2_with (at_builtin; refine wpList_append_bks rfl _ _ rfl u3 _ rfl HO1.out wr.heap.size 0 1 [(b, k)] 1 rfl rfl HC1.out HM1.out HLL.out ((listTo q.fr k).length + j + 1) HN3.out ?_; intro g3 z3 w3 hi3 t3 ho3; have HI3 := hid hi3; have HT3 := hid t3; have HO3 := hid ho3; clear hi3 t3 ho3)
          go_roundw
          case rel =>
            refine ⟨j + 1, by omega, by go_num, hid ?_, hid ?_, hid ?_⟩
            · have h3 := HI3.out
              rw [take_more HB.out, List.map_append, ← List.append_assoc]
              exact h3
            · intro g' hg'
              cases hg'
              rcases HO3.out with h | h
              · exact hO.out _ h
              · have h1 := hT.out.size
                simp at h; simp only; omega
            · exact (hT.out.alloc _).trans' HT3.out (fun k hk e => absurd (hO.out k e) (by omega))
          case measure => simp [intOf]; omega
        · have hj' : j = (q.fr k).length := by omega
          subst hj'
          go_wp2_with fail
          go_roundw
          case rel => exact ⟨k + 1, by omega, by go_num, hid (by have := hB.out; rw [List.take_length] at this; exact this), hO, hT⟩
          case measure => simp [intOf]; omega
    · have hk' : k = 7 := by omega
      subst hk'
      go_wp2_with fail
      have hbb := hid (fun t (ht : t ∈ listTo q.fr 7) => show 0 ≤ t.1 ∧ t.1 < 256 ∧ t.2 < 7 from by
        obtain ⟨h1, h2⟩ := mem_listTo.1 ht
        obtain ⟨_, h3, _, h4⟩ := HG.out.okF t.2 t.1 h1 h2
        have := sz_pos t.2
        exact ⟨h3, by omega, h1⟩)
      have hll := listTo_len HLen.out (k := 7) (by omega)
      rcases hB.out.shape with ⟨rfl, hnil⟩ | ⟨g, cap, rfl, _, _, hgl, hat⟩
      · have HN := hid hnil
        clear hnil hll
        refine (sort_none none 0 _ wr).mono ?_
        rintro e w' ⟨rfl, rfl⟩
        go_wp2_with fail
        go_ret
        exact ⟨[], none, 0, ⟨by rw [HN.out], List.Pairwise.nil⟩, rfl, .inl rfl, hT.out⟩
      · clear hat
        refine (sort_bks hB.out hbb.out (by omega)).mono ?_
        rintro e w' ⟨rfl, l', hp, hs, hc, t⟩
        have HP := hid hp
        have HS := hid hs
        have HC := hid hc
        have HTT := hid t
        clear hp hs hc t
        go_wp2_with fail
        go_ret
        have hle := HP.out.length_eq
        refine ⟨l', some ⟨g, 0, none⟩, cap, ⟨HP.out, HS.out⟩, ?_, .inr ⟨g, rfl, hO.out g rfl, Nat.lt_of_lt_of_le hgl HTT.out.size, HC.out⟩, hT.out.trans' HTT.out (fun k hk e => by have := hO.out g rfl; omega)⟩
        rw [hle]; rfl
end Go.Proofs.YtiohpmcedfbcgabDoor
