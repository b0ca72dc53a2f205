/- Package slab: Give and Things. Conditions: each theorem's own premises. -/
import Derived.Test.YtiohpmcedfbcgabDoorSlabBoth
import Derived.Test.YtiohpmcedfbcgabDoorMapRange
import Derived.Test.YtiohpmcedfbcgabDoorBase
namespace Go.Proofs.YtiohpmcedfbcgabDoor
open Go.RowKit
set_option linter.unusedVariables false

def thingsOf (l : List (Int × Nat)) (B : Nat → Nat → Bool) (per : Nat) : Nat := (l.map fun t => cntB (B t.2) per).sum
theorem thingsOf_le (B : Nat → Nat → Bool) (per : Nat) : ∀ l : List (Int × Nat), thingsOf l B per ≤ l.length * per
  | [] => by simp [thingsOf]
  | t :: l => by
    have h1 := thingsOf_le B per l
    have h2 := cntB_le (B t.2) per
    simp only [thingsOf, List.map_cons, List.sum_cons, List.length_cons] at *
    rw [Nat.add_mul]
    omega

section
variable {p mb cb sm per : Nat} {vs : Nat → Value} {q : Pl} {l : List (Int × Nat)} {B : Nat → Nat → Bool}
set_option maxHeartbeats 4000000 in
set_option maxRecDepth 100000 in
theorem slabThings_any {w : World} (h : SPool w p mb vs q cb sm per l B) : Calls Tryd.prog 62 #[.pointer (some ⟨cb, 0, none⟩)] w fun e w' => e = .returned (.int .i64 (thingsOf l B per)) ∧ Turn (fun _ => False) w w' := by
  have c2 := h.slab.c2
  have H := hid h
  have hll := h.len
  have hp2 := h.p2
  have hndl : l.Nodup := (List.nodup_iff_pairwise_ne.2 (List.Pairwise.imp (fun h e => h (congrArg Prod.fst e)) (List.pairwise_map.1 h.slab.mp.nodup)))
  have HNd := hid hndl
  clear h hndl
  go_enter Tryd.func62, Tryd.ntmps62
  go_wp2_with (at_range; refine wpList_maprange rfl _ _ 3 158 rfl Tryd.underlying178 rfl H.out.slab.mp ?_; intro w2 hR2 t2 hs2; have HR2 := hid hR2; have HT2 := hid t2; clear hR2 t2 hs2)
  obtain ⟨r, hrr⟩ : ∃ r, w.heap.size = r := ⟨_, rfl⟩
  rw [hrr] at HR2
  rw [hrr]
  have HRF : Hid (∀ k, Feet p mb vs cb sm l k → ¬ k = r) := hid (fun k hk e => by have := H.out.feet_lt k hk; omega)
  have HWr := hid hrr
  clear hrr
  go_frame
  go_loopg [3] (l.length) (fun g n wr => ∃ (seenK : Int → Prop) (L : List (Int × Nat)), Hid (RangeOf wr sm r encI (fun b : Nat => Value.slice (some ⟨b, 0, none⟩) per per) l seenK g) ∧ Hid (L.Nodup ∧ ∀ t, t ∈ L ↔ t ∈ l ∧ seenK t.1) ∧ L.length + g ≤ l.length ∧ n = .int .i64 (thingsOf L B per) ∧ Hid (Turn (fun _ => False) w wr))
  case atStart => exact ⟨_, [], HR2, hid ⟨List.nodup_nil, fun t => by simp⟩, by simp, rfl, HT2⟩
  case round =>
    clear HR2 HT2
    obtain ⟨seenK, L, hR, hL, hLg, rfl, hT⟩ := hrel
    go_wp2_with (at_next; refine wpList_mapnext rfl _ rfl rfl hR.out ?_ ?_)
    · intro hall
      have hperm : L.Perm l := (List.perm_ext_iff_of_nodup hL.out.1 HNd.out).2 (fun t => by
        rw [hL.out.2]
        exact ⟨fun h => h.1, fun h => ⟨h, hall t.1 t.2 h⟩⟩)
      have hsum : thingsOf L B per = thingsOf l B per := (hperm.map _).sum_nat
      clear hall hperm
      rw [hsum]
      clear hsum
      go_wp2_with fail
      go_ret
      exact ⟨rfl, hT.out⟩
    · intro f b w5 cnt' hpm hns hR5 hlt5 t5 hsz5 hen
      (try simp only at hns hen)
      have HR5 := hid hR5
      have hT5 : Turn (fun _ => False) w w5 := hT.out.trans' t5 (fun k hk e => absurd e (by have := HWr.out; omega))
      have HT5 := hid hT5
      have HRow := hid ((H.out.slab.row _ hpm).turned hT5 id)
      have HL2 : Hid (((f, b) :: L).Nodup ∧ ∀ t, t ∈ (f, b) :: L ↔ t ∈ l ∧ (seenK t.1 ∨ t.1 = f)) := hid (by
        refine ⟨List.nodup_cons.2 ⟨fun h => hns ((hL.out.2 _).1 h).2, hL.out.1⟩, fun t => ?_⟩
        rw [List.mem_cons, hL.out.2]
        constructor
        · rintro (rfl | ⟨h1, h2⟩)
          · exact ⟨hpm, .inr rfl⟩
          · exact ⟨h1, .inl h2⟩
        · rintro ⟨h1, h2 | h2⟩
          · exact .inr ⟨h1, h2⟩
          · have e1 : mget l f = some t.2 := mget_mem H.out.slab.mp.nodup (h2 ▸ h1)
            have e2 : mget l f = some b := mget_mem H.out.slab.mp.nodup hpm
            rw [e1] at e2
            cases e2
            exact .inl (by rw [← h2]))
      have hN := thingsOf_le B per L
      have hN2 : thingsOf L B per ≤ 256 * 16 := Nat.le_trans hN (Nat.mul_le_mul (by omega) hp2)
      have hN3 : thingsOf ((f, b) :: L) B per = thingsOf L B per + cntB (B b) per := by
        simp only [thingsOf, List.map_cons, List.sum_cons]; omega
      obtain ⟨N, hNN⟩ : ∃ N, thingsOf L B per = N := ⟨_, rfl⟩
      rw [hNN] at hN2 hN3
      have HN3 := hid hN3
      clear hpm hns hR5 t5 hT5 hL hR hT hN hN3
      rw [hNN]
      clear hNN
      go_wp2_with fail
      go_loopg [3, 19] per (fun g n i wr => ∃ j : Nat, j + g = per ∧ i = .int .i64 j ∧ n = .int .i64 (N + cntB (B b) j : Nat) ∧ wr = w5)
      case atStart => exact ⟨0, by omega, rfl, rfl, rfl⟩
      case round =>
        obtain ⟨j, hj, rfl, rfl, rfl⟩ := hrel
        by_cases hlt : j < per
        · have hlt' : (j : Int) < per := by omega
          have hc := HRow.out.cell j hlt
          have hcl := cntB_le (B b) j
          have hs := cntB_succ (B b) j
          cases hv : B b j with
          | true =>
            rw [hv] at hc hs
            have HS := hid hs
            clear hs hv
            go_wp2_with fail
            go_roundg (gk - 1)
            case measure => omega
            case rel => exact ⟨j + 1, by omega, by go_num, by rw [HS.out]; go_num, rfl⟩
          | false =>
            rw [hv] at hc hs
            have HS := hid hs
            clear hs hv
            go_wp2_with fail
            go_roundg (gk - 1)
            case measure => omega
            case rel => exact ⟨j + 1, by omega, by go_num, by rw [HS.out]; rfl, rfl⟩
        · have hlt' : ¬ (j : Int) < per := by omega
          obtain rfl : j = per := by omega
          go_wp2_with fail
          go_roundg cnt'
          case measure => omega
          case rel => exact ⟨_, _, HR5, HL2, by simp only [List.length_cons]; omega, by rw [HN3.out, Int.natCast_add], HT5⟩

/-- What Give takes away: the frame's row's place. -/
def GaveS (p mb : Nat) (vs : Nat → Value) (q : Pl) (cb sm per : Nat) (l : List (Int × Nat)) (B : Nat → Nat → Bool) (n : Int) (w : World) (e : Ending) (w' : World) : Prop :=
  0 ≤ n ∧ ∃ b, mget l (n / per) = some b ∧ B b (n % per).toNat = true ∧ e = .returned .nilIface ∧ SAfter p mb vs cb sm per l w w' q l (updR B b (setB (B b) (n % per).toNat false))
theorem slabGiveS {w : World} (h : SPool w p mb vs q cb sm per l B) (n : Int) (hn : n < 9223372036854775808) : Calls Tryd.prog 58 #[.pointer (some ⟨cb, 0, none⟩), .int .i64 n] w fun e w' =>
    (¬ ThereB l B per n ∧ e = .returned (.iface 40 (.int .i64 7)) ∧ Turn (fun _ => False) w w') ∨ GaveS p mb vs q cb sm per l B n w e w' := by
  by_cases h0 : n < 0
  · refine (slabGive_none cb n h0).mono ?_
    rintro e w' ⟨rfl, rfl⟩
    exact .inl ⟨fun h => by have := h.1; omega, rfl, Turn.refl _ _⟩
  · obtain ⟨k, rfl⟩ : ∃ k : Nat, n = k := ⟨n.toNat, by omega⟩
    refine (slabGive_any h.slab h.p1 h.p2 k (by omega)).mono ?_
    rintro e w' (h1 | ⟨b, hb, hv, rfl, hs, t⟩)
    · exact .inl h1
    · have e1 : ((k / per : Nat) : Int) = (k : Int) / per := by simp
      have e2 : ((k : Int) % per).toNat = k % per := by
        rw [← Int.natCast_emod, Int.toNat_natCast]
      rw [e1] at hb
      refine .inr ⟨by omega, b, hb, by rw [e2]; exact hv, rfl, ?_⟩
      rw [e2]
      have hbf : SFoot cb sm l b := .inr (.inr (List.mem_map.2 ⟨_, mem_of_mget hb, rfl⟩))
      exact ⟨vs, { h with pool := h.pool.turned t (fun k hk e => h.ap b hbf (e ▸ hk)), slab := hs }, t.mono fun _ _ e => e ▸ .inr hbf, fun _ => .inl⟩
end
end Go.Proofs.YtiohpmcedfbcgabDoor
