/- The law's own fact 'slabbed': three things in two frames. No condition. -/
import Derived.Test.YtiohpmcedfbcgabDoorRefSlabReap
namespace Go.Proofs.YtiohpmcedfbcgabDoor
open Go.RowKit
set_option linter.unusedVariables false

def frA : Fr := fun k => if k = 2 then [0] else []
def frB : Fr := fun k => if k = 0 then [1] else if k = 1 then [2] else []
theorem mem_frA {k : Nat} {b : Int} : b ∈ frA k ↔ k = 2 ∧ b = 0 := by
  unfold frA
  split
  · rename_i h; simp [h]
  · rename_i h; simp [h]
theorem mem_frB {k : Nat} {b : Int} : b ∈ frB k ↔ (k = 0 ∧ b = 1) ∨ (k = 1 ∧ b = 2) := by
  unfold frB
  split
  · rename_i h; subst h; simp
  · split
    · rename_i h1 h2; subst h2; simp
    · rename_i h1 h2; simp [h1, h2]
theorem sz_0 : sz 0 = 1 := rfl
theorem sz_1 : sz 1 = 2 := rfl
theorem sz_2 : sz 2 = 4 := rfl
theorem sz_3 : sz 3 = 8 := rfl
theorem good_A : Good 4 frA [] where
  okF := fun k b _ hb => by
    obtain ⟨rfl, rfl⟩ := mem_frA.1 hb
    exact ⟨by omega, by omega, by decide, by decide⟩
  okT := fun t ht => by cases ht
  nd := fun k _ => by unfold frA; split <;> simp
  ff := fun k b j c _ _ hb hc _ => by
    obtain ⟨rfl, rfl⟩ := mem_frA.1 hb
    obtain ⟨rfl, rfl⟩ := mem_frA.1 hc
    exact ⟨rfl, rfl⟩
  tt := List.Pairwise.nil
  ft := fun k b _ _ t ht => by cases ht
  cov := fun f h0 h1 => .inl ⟨2, 0, by omega, mem_frA.2 ⟨rfl, rfl⟩, h0, by rw [sz_2]; omega⟩
  nb := fun k b _ _ hb h => by
    obtain ⟨rfl, rfl⟩ := mem_frA.1 hb
    have := (mem_frA.1 h).2
    rw [sz_2] at this
    omega
theorem good_B : Good 4 frB [(0, 0)] where
  okF := fun k b _ hb => by
    rcases mem_frB.1 hb with ⟨rfl, rfl⟩ | ⟨rfl, rfl⟩
    · exact ⟨by omega, by omega, by decide, by decide⟩
    · exact ⟨by omega, by omega, by decide, by decide⟩
  okT := fun t ht => by
    rw [List.mem_singleton.1 ht]
    exact ⟨by decide, by decide, by decide, by decide⟩
  nd := fun k _ => by unfold frB; split <;> (try split) <;> simp
  ff := fun k b j c _ _ hb hc ho => by
    rcases mem_frB.1 hb with ⟨rfl, rfl⟩ | ⟨rfl, rfl⟩ <;> rcases mem_frB.1 hc with ⟨rfl, rfl⟩ | ⟨rfl, rfl⟩
    · exact ⟨rfl, rfl⟩
    · unfold Ov at ho; rw [sz_0, sz_1] at ho; omega
    · unfold Ov at ho; rw [sz_0, sz_1] at ho; omega
    · exact ⟨rfl, rfl⟩
  tt := by simp
  ft := fun k b _ hb t ht ho => by
    rw [List.mem_singleton.1 ht] at ho
    rcases mem_frB.1 hb with ⟨rfl, rfl⟩ | ⟨rfl, rfl⟩
    · unfold Ov at ho; simp only [sz_0] at ho; omega
    · unfold Ov at ho; simp only [sz_0, sz_1] at ho; omega
  cov := fun f h0 h1 => by
    by_cases e0 : f = 0
    · exact .inr ⟨_, List.mem_cons_self .., by simp only; omega, by simp only [sz_0]; omega⟩
    · by_cases e1 : f = 1
      · exact .inl ⟨0, 1, by omega, mem_frB.2 (.inl ⟨rfl, rfl⟩), by omega, by rw [sz_0]; omega⟩
      · exact .inl ⟨1, 2, by omega, mem_frB.2 (.inr ⟨rfl, rfl⟩), by omega, by rw [sz_1]; omega⟩
  nb := fun k b _ hm hb h => by
    rcases mem_frB.1 hb with ⟨rfl, rfl⟩ | ⟨rfl, rfl⟩
    · rw [sz_1] at hm; omega
    · rw [sz_2] at hm; omega
theorem free_A {fr : Fr} (h : Good 4 fr []) {k : Nat} {b : Int} (hk : k < 7) (hb : b ∈ fr k) : b = 0 :=
  (mem_frA.1 ((h.same good_A (fun _ => Iff.rfl) hk).mem_iff.1 hb)).2
theorem free_B {fr : Fr} (h : Good 4 fr [(0, 0)]) {k : Nat} {b : Int} (hk : k < 7) (hlow : ∀ j, j < k → fr j = []) (hb : b ∈ fr k) : b = 1 := by
  have h1 : (1 : Int) ∈ fr 0 := (h.same good_B (fun _ => Iff.rfl) (by omega)).mem_iff.2 (mem_frB.2 (.inl ⟨rfl, rfl⟩))
  rcases mem_frB.1 ((h.same good_B (fun _ => Iff.rfl) hk).mem_iff.1 hb) with ⟨_, rfl⟩ | ⟨rfl, rfl⟩
  · rfl
  · rw [hlow 0 (by omega)] at h1; cases h1
theorem frames_nil : framesOfL [] = [] := by simp [framesOfL]
theorem frames_one (f : Int) (b : Nat) : framesOfL [(f, b)] = [f] := by simp [framesOfL]
theorem frames_two (b c : Nat) : framesOfL [(0, b), (1, c)] = [0, 1] := by
  refine eq_of_sorted (List.mergeSort_perm _ _) (sorted_framesOfL _) ?_
  simp
theorem mget_one (f : Int) (b : Nat) : mget [(f, b)] f = some b := by simp [mget]
section
variable {W w w' : World} {p mb cb sm : Nat} {vs : Nat → Value} {B : Nat → Nat → Bool} {fr : Fr} {nb nc : Nat} {e : Ending}
theorem hasB_two {g : Nat → Bool} {v : Bool} : hasB g 2 v = (g 0 == v || g 1 == v) := by
  unfold hasB
  simp [List.range, List.range.loop]
theorem slabbed1 (h : SKeep W w p mb vs 4 fr [] cb sm 2 [] B) (hp : ProgAlloc p mb vs ⟨((4 : Nat) : Int), fr, []⟩ cb sm 2 [] B w e w') :
    e = .returned (.tuple #[.int .i64 0, .nilIface]) ∧ ∃ vs' fr' nb B', SKeep W w' p mb vs' 4 fr' [(0, 0)] cb sm 2 [(0, nb)] B' ∧ B' nb 0 = true ∧ B' nb 1 = false := by
  rcases hp with ⟨b, k, hb', _⟩ | ⟨_, hemp, _⟩ | ⟨hneg, k, base, fr', nb, hk7, hlow, hbm, hbl, hmt, hml, hb0, hnb, rfl, ha⟩
  · simp [mget] at hb'
  · exfalso
    have h1 := (h.sp.good.same good_A (fun _ => Iff.rfl) (k := 2) (by omega)).mem_iff.2 (mem_frA.2 ⟨rfl, rfl⟩)
    simp only at h1 hemp
    rw [hemp 2 (by omega)] at h1
    cases h1
  · obtain rfl := free_A h.sp.good hk7 hbm
    obtain ⟨vs', h1, _, _⟩ := h.after ha (fun f hf => by
      have e1 : ([] ++ [((0 : Int), nb)] : List (Int × Nat)) = mput [] 0 nb := rfl
      rw [e1, mget_mput] at hf
      rw [mget_mput]
      by_cases e : f = 0
      · rw [if_pos e] at hf; cases hf
      · rw [if_neg e] at hf ⊢; exact h.keys f hf)
    refine ⟨rfl, vs', fr', nb, _, h1, ?_, ?_⟩
    · rw [updR_same]; rfl
    · rw [updR_same]; rfl
theorem slabbed2 (h : SKeep W w p mb vs 4 fr [(0, 0)] cb sm 2 [(0, nb)] B) (b0 : B nb 0 = true) (b1 : B nb 1 = false) (hp : ProgAlloc p mb vs ⟨((4 : Nat) : Int), fr, [(0, 0)]⟩ cb sm 2 [(0, nb)] B w e w') :
    e = .returned (.tuple #[.int .i64 1, .nilIface]) ∧ ∃ vs' B', SKeep W w' p mb vs' 4 fr [(0, 0)] cb sm 2 [(0, nb)] B' ∧ B' nb 0 = true ∧ B' nb 1 = true := by
  have hrow : rowOf [((0 : Int), nb)] B 0 = B nb := rowOf_some (mget_one 0 nb)
  have hpk : pickOf [((0 : Int), nb)] B 2 = 0 := by
    unfold pickOf
    rw [frames_one, pickS_some (by rw [hrow, hasB_two, b0, b1]; rfl) (by rw [hrow, hasB_two, b0, b1]; rfl)]
  rcases hp with ⟨b, k, hb', hk, hno, hyes, rfl, ha⟩ | ⟨hneg, _⟩ | ⟨hneg, _⟩
  · rw [hpk, mget_one] at hb'
    cases hb'
    have hk1 : k = 1 := by
      rcases Nat.lt_or_ge k 1 with h1 | h1
      · have : k = 0 := by omega
        rw [this, b0] at hno; cases hno
      · omega
    subst hk1
    obtain ⟨vs', h1, _, _⟩ := h.after ha h.keys
    rw [hpk]
    refine ⟨rfl, vs', _, h1, ?_, ?_⟩
    · rw [updR_same]; exact b0
    · rw [updR_same]; rfl
  · omega
  · omega
theorem slabbed3 (h : SKeep W w p mb vs 4 fr [(0, 0)] cb sm 2 [(0, nb)] B) (b0 : B nb 0 = true) (b1 : B nb 1 = true) (hp : ProgAlloc p mb vs ⟨((4 : Nat) : Int), fr, [(0, 0)]⟩ cb sm 2 [(0, nb)] B w e w') :
    e = .returned (.tuple #[.int .i64 2, .nilIface]) ∧ ∃ vs' fr' nc B', SKeep W w' p mb vs' 4 fr' [(0, 0), (1, 0)] cb sm 2 [(0, nb), (1, nc)] B' ∧ nb ≠ nc ∧ B' nb 0 = true ∧ B' nc 0 = true ∧ B' nc 1 = false := by
  have hrow : rowOf [((0 : Int), nb)] B 0 = B nb := rowOf_some (mget_one 0 nb)
  have hpk : pickOf [((0 : Int), nb)] B 2 = -1 := by
    unfold pickOf
    rw [frames_one, pickS_full (by rw [hrow, hasB_two, b0, b1]; rfl)]
    rfl
  rcases hp with ⟨b, k, hb', _⟩ | ⟨_, hemp, _⟩ | ⟨hneg, k, base, fr', nc, hk7, hlow, hbm, hbl, hmt, hml, hbb, hnb, rfl, ha⟩
  · rw [hpk] at hb'
    simp [mget] at hb'
  · exfalso
    have h1 := (h.sp.good.same good_B (fun _ => Iff.rfl) (k := 0) (by omega)).mem_iff.2 (mem_frB.2 (.inl ⟨rfl, rfl⟩))
    simp only at h1 hemp
    rw [hemp 0 (by omega)] at h1
    cases h1
  · obtain rfl := free_B h.sp.good hk7 hlow hbm
    have hne : nb ≠ nc := fun e => by
      have := h.sp.slab.foot_lt nb (.inr (.inr (List.mem_map.2 ⟨_, List.mem_cons_self .., rfl⟩)))
      omega
    obtain ⟨vs', h1, _, _⟩ := h.after ha (fun f hf => by
      rw [← mput_newS hml, mget_mput] at hf
      rw [mget_mput]
      by_cases e : f = 1
      · rw [if_pos e] at hf; cases hf
      · rw [if_neg e] at hf ⊢; exact h.keys f hf)
    refine ⟨rfl, vs', fr', nc, _, h1, hne, ?_, ?_, ?_⟩
    · rw [updR_other _ _ hne]; exact b0
    · rw [updR_same]; rfl
    · rw [updR_same]; rfl
theorem slabbed4 (h : SKeep W w p mb vs 4 fr [(0, 0), (1, 0)] cb sm 2 [(0, nb), (1, nc)] B) (hne : nb ≠ nc) (b0 : B nb 0 = true) (c0 : B nc 0 = true) (c1 : B nc 1 = false) (hp : ProgGive p mb vs ⟨((4 : Nat) : Int), fr, [(0, 0), (1, 0)]⟩ cb sm 2 [(0, nb), (1, nc)] B 2 w e w') :
    e = .returned .nilIface ∧ ∃ vs' B', SKeep W w' p mb vs' 4 fr [(0, 0), (1, 0)] cb sm 2 [(0, nb), (1, nc)] B' ∧ B' nb 0 = true ∧ B' nc 0 = false ∧ B' nc 1 = false := by
  have hm : mget [((0 : Int), nb), (1, nc)] ((2 : Int) / (2 : Nat)) = some nc := by simp [mget]
  have hmod : ((2 : Int) % (2 : Nat)).toNat = 0 := by decide
  rcases hp with ⟨hno, _⟩ | ⟨hx0, b, hb', hv, rfl, ha⟩
  · exact absurd ⟨by decide, nc, hm, by rw [hmod]; exact c0⟩ hno
  · rw [hm] at hb'
    cases hb'
    obtain ⟨vs', h1, _, _⟩ := h.after ha h.keys
    rw [hmod] at h1
    refine ⟨rfl, vs', _, h1, ?_, ?_, ?_⟩
    · rw [updR_other _ _ hne]; exact b0
    · rw [updR_same]; rfl
    · rw [updR_same]; exact c1
theorem slabbed5 (h : SKeep W w p mb vs 4 fr [(0, 0), (1, 0)] cb sm 2 [(0, nb), (1, nc)] B) (b0 : B nb 0 = true) (c0 : B nc 0 = false) (c1 : B nc 1 = false) (hp : SlabReaped p mb vs ⟨((4 : Nat) : Int), fr, [(0, 0), (1, 0)]⟩ cb sm 2 [(0, nb), (1, nc)] B w e w') :
    e = .returned (.int .i64 1) ∧ ∃ vs' fr' tk', SKeep W w' p mb vs' 4 fr' tk' cb sm 2 [(0, nb)] B ∧ leftOf fr' = 3 := by
  have r0 : rowOf [((0 : Int), nb), (1, nc)] B 0 = B nb := rowOf_some (by simp [mget])
  have r1 : rowOf [((0 : Int), nb), (1, nc)] B 1 = B nc := rowOf_some (by simp [mget])
  have hg : goneOf [((0 : Int), nb), (1, nc)] B 2 (framesOfL [(0, nb), (1, nc)]) = [1] := by
    unfold goneOf
    rw [frames_two]
    simp [r0, r1, hasB_two, b0, c0, c1]
  have hd : dels [((0 : Int), nb), (1, nc)] [1] = [(0, nb)] := by simp [dels, mdel]
  obtain ⟨fr', rfl, ha⟩ := hp
  rw [hg, hd] at ha
  obtain ⟨vs', h1, _, _⟩ := h.after ha (fun f hf => by
    rw [mget_dels]
    split
    · rfl
    · rename_i hf1
      refine h.keys f ?_
      rw [mget_none_iff] at hf ⊢
      intro t ht e
      simp only [List.mem_cons, List.not_mem_nil, or_false] at ht
      rcases ht with rfl | rfl
      · exact hf _ (List.mem_cons_self ..) e
      · exact hf1 (by rw [← e]; exact List.mem_cons_self ..))
  rw [hg]
  refine ⟨rfl, vs', fr', _, h1, ?_⟩
  have := h1.left
  simp at this
  omega
end

set_option maxHeartbeats 4000000 in
set_option maxRecDepth 100000 in
theorem slabbed_is (W : World) : Calls Tryd.prog 64 #[] W fun e w' => e = .returned (.bool true) ∧ Turn (fun _ => False) W w' := by
  have HN := hid (new_any 4 W (by omega) (by omega))
  go_enter Tryd.func64, Tryd.ntmps64
  go_wp2_with fail
  refine HN.out.mono ?_
  rintro e w1 ⟨p, mb, vs, fr, rfl, hp, hg, t1, hf⟩
  have HP1 := hid hp
  have HG1 := hid hg
  have HT1 := hid t1
  have HF1 := hid hf
  clear hp hg t1 hf HN
  go_wp2_with fail
  refine (slabNew_is (w := w1) p 2 (by omega) (by omega)).mono ?_
  rintro e w2 ⟨cb, sm, rfl, hsl, t2, hcb, hsm⟩
  have HK : Hid (SKeep W w2 p mb vs 4 fr [] cb sm 2 [] (fun _ _ => false)) := hid (by
    refine ⟨⟨HP1.out.turned t2 (fun _ _ => id), HG1.out, by show ((4 : Nat) : Int) ≤ 256; decide, hsl, fun t ht => (by cases ht), fun k hk hk2 => ?_, by omega, by omega⟩, HT1.out.trans t2, fun k hk => ?_, fun f _ => by simp [mget]⟩
    · have h5 := HP1.out.foot_below k hk2
      rcases hk with h6 | h6 | h6
      · omega
      · omega
      · simp at h6
    · have h6 := HT1.out.size
      rcases hk with hk | hk | hk | hk
      · exact HF1.out k hk
      · omega
      · omega
      · simp at hk)
  clear hsl t2 hcb hsm HP1 HG1 HT1 HF1
  go_wp2_with fail
  refine (slabAlloc_any HK.out.sp).mono ?_
  rintro e w3 hp
  obtain ⟨rfl, vs3, fr3, nb, B3, h3, b0, b1⟩ := slabbed1 HK.out hp
  have HK3 := hid h3
  have HB3 := hid (And.intro b0 b1)
  clear hp h3 b0 b1 HK
  go_wp2_with fail
  refine (slabAlloc_any HK3.out.sp).mono ?_
  rintro e w4 hp
  obtain ⟨rfl, vs4, B4, h4, b0, b1⟩ := slabbed2 HK3.out HB3.out.1 HB3.out.2 hp
  have HK4 := hid h4
  have HB4 := hid (And.intro b0 b1)
  clear hp h4 b0 b1 HK3 HB3
  go_wp2_with fail
  refine (slabAlloc_any HK4.out.sp).mono ?_
  rintro e w5 hp
  obtain ⟨rfl, vs5, fr5, nc, B5, h5, hne, b0, c0, c1⟩ := slabbed3 HK4.out HB4.out.1 HB4.out.2 hp
  have HK5 := hid h5
  have HB5 := hid (And.intro hne (And.intro b0 (And.intro c0 c1)))
  clear hp h5 hne b0 c0 c1 HK4 HB4
  go_wp2_with fail
  refine (frames_len HK5.out.sp.slab).mono ?_
  rintro e w6 ⟨rfl, rfl⟩
  go_wp2_with fail
  refine (slabGiveS HK5.out.sp 2 (by omega)).mono ?_
  rintro e w6 hp
  obtain ⟨rfl, vs6, B6, h6, b0, c0, c1⟩ := slabbed4 HK5.out HB5.out.1 HB5.out.2.1 HB5.out.2.2.1 HB5.out.2.2.2 hp
  have HK6 := hid h6
  have HB6 := hid (And.intro b0 (And.intro c0 c1))
  clear hp h6 b0 c0 c1 HK5 HB5
  go_wp2_with fail
  refine (slabReap_any HK6.out.sp).mono ?_
  rintro e w7 hp
  obtain ⟨rfl, vs7, fr7, tk7, h7, hl7⟩ := slabbed5 HK6.out HB6.out.1 HB6.out.2.1 HB6.out.2.2 hp
  have HK7 := hid h7
  have HL7 := hid hl7
  clear hp h7 hl7 HK6 HB6
  go_wp2_with fail
  refine (left_is HK7.out.sp.pool (fun k hk => by have := HK7.out.sp.good.len (by show ((4 : Nat) : Int) ≤ 256; decide) k hk; simp only at this ⊢; omega)).mono ?_
  rintro e w8 ⟨rfl, rfl⟩
  rw [show leftOf (Pl.fr ⟨((4 : Nat) : Int), fr7, tk7⟩) = 3 from HL7.out]
  go_wp2_with fail
  go_ret
  exact ⟨rfl, HK7.out.turn⟩
end Go.Proofs.YtiohpmcedfbcgabDoor
