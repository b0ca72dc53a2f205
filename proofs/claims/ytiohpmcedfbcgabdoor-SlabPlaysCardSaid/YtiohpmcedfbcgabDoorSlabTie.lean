/- A cache and the document's: the tie between them, and that both pick, count and reap alike. No program in sight. Conditions: each theorem's own premises. -/
import Derived.Test.YtiohpmcedfbcgabDoorRefSlabReap
namespace Go.Proofs.YtiohpmcedfbcgabDoor
set_option linter.unusedVariables false

/-- The document's things are those that are there. -/
def TieS (tl : List (Int × Unit)) (l : List (Int × Nat)) (B : Nat → Nat → Bool) (per : Nat) : Prop := ∀ k : Int, (mget tl k).isSome = true ↔ ThereB l B per k

theorem cntB_lt {g : Nat → Bool} {k : Nat} : cntB g k < k ↔ hasB g k false = true := by
  rw [hasB_true]
  constructor
  · intro h
    obtain ⟨j, h1, h2, _⟩ := cntB_first h
    exact ⟨j, h1, h2⟩
  · rintro ⟨j, h1, h2⟩
    rcases Nat.lt_or_ge (cntB g k) k with h | h
    · exact h
    · have := cntB_all (g := g) (k := k) (Nat.le_antisymm (cntB_le g k) h) j h1
      rw [this] at h2; cases h2
theorem cntB_pos {g : Nat → Bool} {k : Nat} : 0 < cntB g k ↔ hasB g k true = true := by
  unfold cntB
  rw [hasB_true, List.length_pos_iff_exists_mem]
  constructor
  · rintro ⟨j, hj⟩
    obtain ⟨h1, h2⟩ := List.mem_filter.1 hj
    exact ⟨j, List.mem_range.1 h1, h2⟩
  · rintro ⟨j, h1, h2⟩
    exact ⟨j, List.mem_filter.2 ⟨List.mem_range.2 h1, h2⟩⟩
theorem frame_div {f : Int} {per j : Nat} (hj : j < per) : (f * per + j) / (per : Int) = f ∧ (f * per + j) % (per : Int) = j := by
  have h0 : (per : Int) ≠ 0 := by omega
  have h1 : f * per + j = (j : Int) + f * per := Int.add_comm ..
  have h2 : (j : Int) / per = 0 := Int.ediv_eq_zero_of_lt (by omega) (by omega)
  have h3 : (j : Int) % per = j := Int.emod_eq_of_lt (by omega) (by omega)
  rw [h1]
  refine ⟨?_, ?_⟩
  · rw [Int.add_mul_ediv_right _ _ h0, h2]; omega
  · rw [Int.add_mul_emod_self_right, h3]
theorem frame_of (per : Nat) (hp : 1 ≤ per) (k : Int) : k = k / per * per + ((k % per).toNat : Nat) ∧ (k % (per : Int)).toNat < per := by
  have h0 : (0 : Int) < per := by omega
  have h1 := Int.emod_nonneg k (show (per : Int) ≠ 0 by omega)
  have h2 := Int.emod_lt_of_pos k h0
  have h3 := Int.emod_add_mul_ediv k per
  rw [Int.mul_comm] at h3
  have h4 : ((k % (per : Int)).toNat : Int) = k % per := by omega
  refine ⟨?_, by omega⟩
  omega
section
variable {l : List (Int × Nat)} {B : Nat → Nat → Bool} {per : Nat} {tl : List (Int × Unit)}
theorem there_iff {f : Int} {j : Nat} (hf : 0 ≤ f) (hj : j < per) : ThereB l B per (f * per + j) ↔ ∃ b, mget l f = some b ∧ B b j = true := by
  obtain ⟨h1, h2⟩ := frame_div (f := f) hj
  unfold ThereB
  rw [h1, h2, Int.toNat_natCast]
  have : 0 ≤ f * per := Int.mul_nonneg hf (by omega)
  constructor
  · exact fun h => h.2
  · exact fun h => ⟨by omega, h⟩
theorem rowOf_iff {f : Int} {j : Nat} : rowOf l B f j = true ↔ ∃ b, mget l f = some b ∧ B b j = true := by
  unfold rowOf
  cases h : mget l f with
  | none => simp
  | some b => simp
theorem hasC_row (ht : TieS tl l B per) {f : Int} (hf : 0 ≤ f) : hasC tl per f per = cntB (rowOf l B f) per :=
  cntB_congr fun j hj => by
    rw [Bool.eq_iff_iff, ht, there_iff hf hj, rowOf_iff]

theorem docPass_stay {h : Int → Nat} {per : Nat} {want : Bool} : ∀ {fs : List Int} {f : Int}, 0 ≤ f → docPass h per want fs f = f
  | [], f, _ => rfl
  | s :: fs, f, hf => by
    rw [docPass_no (fun hc => by have := hc.1; omega)]
    exact docPass_stay hf
theorem pass_pick (h : Int → Nat) (per : Nat) (room some : Int → Bool) : ∀ (fs : List Int) (b : Int), (∀ s ∈ fs, 0 ≤ s ∧ (room s = true ↔ h s < per) ∧ (some s = true ↔ 0 < h s)) →
    pickF room some fs b = if 0 ≤ docPass h per true fs (-1) then docPass h per true fs (-1) else docPass h per false fs b
  | [], b, _ => by unfold pickF docPass; rw [if_neg (by decide)]
  | s :: fs, b, hs => by
    obtain ⟨h0, h1, h2⟩ := hs s (List.mem_cons_self ..)
    have ih := fun b => pass_pick h per room some fs b (fun t ht => hs t (List.mem_cons_of_mem _ ht))
    by_cases hr : h s < per
    · have r1 : room s = true := h1.2 hr
      by_cases hm : 0 < h s
      · have m1 : some s = true := h2.2 hm
        have e1 : pickF room some (s :: fs) b = s := by
          show (if room s then (if some s then s else _) else _) = s
          rw [r1, m1]; rfl
        rw [e1, docPass_yes (by decide) hr (by simp [hm]), docPass_stay h0, if_pos h0]
      · have m1 : some s = false := by
          cases e : some s with
          | false => rfl
          | true => exact absurd (h2.1 e) hm
        have e1 : pickF room some (s :: fs) b = pickF room some fs (if b < 0 then s else b) := by
          show (if room s then (if some s then s else _) else _) = _
          rw [r1, m1]; rfl
        rw [e1, ih, docPass_no (h := h) (want := true) (f := -1) (fun hc => by have := hc.2.2; simp [hm] at this)]
        have e2 : docPass h per false (s :: fs) b = docPass h per false fs (if b < 0 then s else b) := by
          by_cases hb : b < 0
          · rw [if_pos hb, docPass_yes hb hr (by simp [hm])]
          · rw [if_neg hb, docPass_no (fun hc => hb hc.1)]
        rw [e2]
    · have r1 : room s = false := by
        cases e : room s with
        | false => rfl
        | true => exact absurd (h1.1 e) hr
      have e1 : pickF room some (s :: fs) b = pickF room some fs b := by
        show (if room s then _ else pickF room some fs b) = _
        rw [r1]; rfl
      rw [e1, ih, docPass_no (h := h) (want := true) (f := -1) (fun hc => hr hc.2.1), docPass_no (h := h) (want := false) (f := b) (fun hc => hr hc.2.1)]
theorem docPick_is (ht : TieS tl l B per) (hn : ∀ t ∈ l, 0 ≤ t.1) : docPick (fun f => hasC tl per f per) per (framesOfL l) = pickOf l B per := by
  have hn2 : ∀ s ∈ framesOfL l, 0 ≤ s := fun s hs => by
    obtain ⟨t, h1, rfl⟩ := List.mem_map.1 (mem_framesOfL.1 hs)
    exact hn t h1
  have h1 := pass_pick (fun f => hasC tl per f per) per (fun f => hasB (rowOf l B f) per false) (fun f => hasB (rowOf l B f) per true) (framesOfL l) (-1) (fun s hs => by
    have h0 := hn2 s hs
    refine ⟨h0, ?_, ?_⟩
    · simp only [hasC_row ht h0]; exact cntB_lt.symm
    · simp only [hasC_row ht h0]; exact cntB_pos.symm)
  unfold docPick pickOf pickS
  rw [h1]
  rcases docPass_mem (fun f => hasC tl per f per) per true (framesOfL l) (-1) with h2 | ⟨h2, _⟩
  · rw [h2, if_neg (by decide)]
  · have h3 := hn2 _ h2
    rw [if_pos h3, docPass_stay h3]

/-- How many things there are. -/
def placesOf (l : List (Int × Nat)) (B : Nat → Nat → Bool) (per : Nat) : List Int := l.flatMap fun t => ((List.range per).filter (B t.2)).map fun j : Nat => t.1 * per + (j : Int)
theorem mem_places1 {t : Int × Nat} {x : Int} : x ∈ ((List.range per).filter (B t.2)).map (fun j : Nat => t.1 * per + (j : Int)) ↔ ∃ j, j < per ∧ B t.2 j = true ∧ t.1 * per + (j : Int) = x := by
  rw [List.mem_map]
  constructor
  · rintro ⟨j, hj, e⟩
    obtain ⟨h1, h2⟩ := List.mem_filter.1 hj
    exact ⟨j, List.mem_range.1 h1, h2, e⟩
  · rintro ⟨j, h1, h2, e⟩
    exact ⟨j, List.mem_filter.2 ⟨List.mem_range.2 h1, h2⟩, e⟩
theorem places_length (l : List (Int × Nat)) : (placesOf l B per).length = thingsOf l B per := by
  induction l with
  | nil => rfl
  | cons t l ih =>
    have e : placesOf (t :: l) B per = ((List.range per).filter (B t.2)).map (fun j : Nat => t.1 * per + (j : Int)) ++ placesOf l B per := by simp [placesOf]
    rw [e, List.length_append, List.length_map, ih]
    simp [thingsOf, cntB]
theorem mem_places (hnd : MNodup l) (h0 : ∀ t ∈ l, 0 ≤ t.1) (hp : 1 ≤ per) {x : Int} : x ∈ placesOf l B per ↔ ThereB l B per x := by
  unfold placesOf
  rw [List.mem_flatMap]
  constructor
  · rintro ⟨t, ht, hx⟩
    obtain ⟨j, h1, h2, rfl⟩ := mem_places1.1 hx
    exact (there_iff (h0 t ht) h1).2 ⟨t.2, mget_mem hnd ht, h2⟩
  · rintro ⟨hx0, b, hb, hv⟩
    obtain ⟨e1, e2⟩ := frame_of per hp x
    exact ⟨(x / per, b), mem_of_mget hb, mem_places1.2 ⟨_, e2, hv, e1.symm⟩⟩
theorem nodup_places {l : List (Int × Nat)} (hnd : MNodup l) : (placesOf l B per).Nodup := by
  induction l with
  | nil => exact List.nodup_nil
  | cons t l ih =>
    unfold MNodup at hnd
    rw [List.map_cons, List.nodup_cons] at hnd
    have e : placesOf (t :: l) B per = ((List.range per).filter (B t.2)).map (fun j : Nat => t.1 * per + (j : Int)) ++ placesOf l B per := by simp [placesOf]
    rw [e, List.nodup_append]
    refine ⟨?_, ih hnd.2, ?_⟩
    · rw [List.Nodup, List.pairwise_map]
      exact ((List.nodup_range (n := per)).filter _).imp (fun hne e => hne (by omega))
    · intro a ha b hb e
      subst e
      obtain ⟨j, h1, _, e1⟩ := mem_places1.1 ha
      unfold placesOf at hb
      obtain ⟨s, hs, hx⟩ := List.mem_flatMap.1 hb
      obtain ⟨i, h2, _, e2⟩ := mem_places1.1 hx
      have d1 := (frame_div (f := t.1) h1).1
      have d2 := (frame_div (f := s.1) h2).1
      rw [e1] at d1
      rw [e2] at d2
      exact hnd.1 (List.mem_map.2 ⟨s, hs, by rw [← d2, d1]⟩)
theorem things_len (ht : TieS tl l B per) (hp : 1 ≤ per) (hnd : MNodup l) (h0 : ∀ t ∈ l, 0 ≤ t.1) (hnt : MNodup tl) : tl.length = thingsOf l B per := by
  have hp2 : (tl.map Prod.fst).Perm (placesOf l B per) := by
    rw [List.perm_ext_iff_of_nodup hnt (nodup_places hnd)]
    intro x
    rw [mem_places hnd h0 hp, ← ht x]
    constructor
    · intro hx
      obtain ⟨⟨k, u⟩, h1, rfl⟩ := List.mem_map.1 hx
      rw [mget_mem hnt h1]; rfl
    · intro hx
      obtain ⟨u, hu⟩ := Option.isSome_iff_exists.1 hx
      exact List.mem_map.2 ⟨(x, u), mem_of_mget hu, rfl⟩
  have := hp2.length_eq
  rw [List.length_map, places_length] at this
  exact this

/-- One thing made, or gone. -/
theorem inj_key (inj : (l.map (·.2)).Nodup) {f f' : Int} {b : Nat} (h : mget l f = some b) (h' : mget l f' = some b) : f = f' := by
  have m1 := mem_of_mget h
  have m2 := mem_of_mget h'
  obtain ⟨i, hi⟩ := List.getElem?_of_mem m1
  obtain ⟨j, hj⟩ := List.getElem?_of_mem m2
  obtain ⟨a1, a2⟩ := List.getElem?_eq_some_iff.1 hi
  obtain ⟨b1, b2⟩ := List.getElem?_eq_some_iff.1 hj
  have e : i = j := (List.getElem_inj (xs := l.map (·.2)) (h₀ := by simpa using a1) (h₁ := by simpa using b1) inj).1 (by rw [List.getElem_map, List.getElem_map, a2, b2])
  subst e
  rw [hi] at hj
  cases hj; rfl
theorem there_set (inj : (l.map (·.2)).Nodup) (hp : 1 ≤ per) {f : Int} {b j : Nat} (hb : mget l f = some b) (hf : 0 ≤ f) (hj : j < per) (v : Bool) (k : Int) :
    ThereB l (updR B b (setB (B b) j v)) per k ↔ if k = f * per + j then v = true else ThereB l B per k := by
  by_cases hk : k = f * per + j
  · rw [if_pos hk, hk, there_iff hf hj]
    constructor
    · rintro ⟨b', h1, h2⟩
      rw [hb] at h1; cases h1
      rw [updR_same] at h2
      unfold setB at h2
      rw [if_pos rfl] at h2
      exact h2
    · intro h
      refine ⟨b, hb, ?_⟩
      rw [updR_same]
      unfold setB
      rw [if_pos rfl]
      exact h
  · rw [if_neg hk]
    obtain ⟨e1, e2⟩ := frame_of per hp k
    unfold ThereB
    refine and_congr_right fun _ => exists_congr fun b' => and_congr_right fun hb' => ?_
    by_cases e : b' = b
    · subst e
      have hkf := inj_key inj hb' hb
      have hne : ¬ (k % (per : Int)).toNat = j := fun e3 => hk (by rw [← e3, ← hkf]; exact e1)
      rw [updR_same]
      unfold setB
      rw [if_neg hne]
    · rw [updR_other _ _ e]
theorem TieS.made (ht : TieS tl l B per) (inj : (l.map (·.2)).Nodup) (hp : 1 ≤ per) {f : Int} {b j : Nat} (hb : mget l f = some b) (hf : 0 ≤ f) (hj : j < per) : TieS (mput tl (f * per + j) ()) l (updR B b (setB (B b) j true)) per := fun k => by
  rw [there_set inj hp hb hf hj, mget_mput]
  by_cases hk : k = f * per + j
  · rw [if_pos hk, if_pos hk]; simp
  · rw [if_neg hk, if_neg hk]; exact ht k
theorem TieS.went (ht : TieS tl l B per) (inj : (l.map (·.2)).Nodup) (hp : 1 ≤ per) {f : Int} {b j : Nat} (hb : mget l f = some b) (hf : 0 ≤ f) (hj : j < per) : TieS (mdel tl (f * per + j)) l (updR B b (setB (B b) j false)) per := fun k => by
  rw [there_set inj hp hb hf hj, mget_mdel]
  by_cases hk : k = f * per + j
  · rw [if_pos hk, if_pos hk]; simp
  · rw [if_neg hk, if_neg hk]; exact ht k
theorem there_new (hp : 1 ≤ per) {base : Int} {nb : Nat} (h0 : 0 ≤ base) (hb : mget l base = none) (hnb : ∀ t ∈ l, t.2 ≠ nb) (k : Int) : ThereB (l ++ [(base, nb)]) (updR B nb (setB (fun _ => false) 0 true)) per k ↔ if k = base * per then True else ThereB l B per k := by
  have hm : ∀ x, mget (l ++ [(base, nb)]) x = if x = base then some nb else mget l x := fun x => by rw [← mput_newS hb, mget_mput]
  obtain ⟨e1, e2⟩ := frame_of per hp k
  by_cases hk : k = base * per
  · rw [if_pos hk]
    refine iff_true_intro ?_
    have h1 := (there_iff (l := l ++ [(base, nb)]) (B := updR B nb (setB (fun _ => false) 0 true)) (per := per) (f := base) (j := 0) h0 (by omega)).2 ⟨nb, by rw [hm, if_pos rfl], by rw [updR_same]; rfl⟩
    rw [hk]
    simpa using h1
  · rw [if_neg hk]
    unfold ThereB
    refine and_congr_right fun _ => ?_
    rw [hm]
    by_cases e : k / (per : Int) = base
    · rw [if_pos e, e, hb]
      constructor
      · rintro ⟨b', h1, h2⟩
        cases h1
        rw [updR_same] at h2
        unfold setB at h2
        by_cases e3 : (k % (per : Int)).toNat = 0
        · exact absurd (by rw [e1, e3, e]; simp) hk
        · rw [if_neg e3] at h2; cases h2
      · rintro ⟨b', h1, _⟩; cases h1
    · rw [if_neg e]
      refine exists_congr fun b' => and_congr_right fun hb' => ?_
      rw [updR_other _ _ (fun e4 => hnb _ (mem_of_mget hb') e4)]
theorem TieS.new (ht : TieS tl l B per) (hp : 1 ≤ per) {base : Int} {nb : Nat} (h0 : 0 ≤ base) (hb : mget l base = none) (hnb : ∀ t ∈ l, t.2 ≠ nb) : TieS (mput tl (base * per) ()) (l ++ [(base, nb)]) (updR B nb (setB (fun _ => false) 0 true)) per := fun k => by
  rw [mget_mput, there_new hp h0 hb hnb]
  by_cases hk : k = base * per
  · rw [if_pos hk, if_pos hk]; simp
  · rw [if_neg hk, if_neg hk]; exact ht k
theorem frames_new (l : List (Int × Nat)) (base : Int) (nb : Nat) : framesOfL (l ++ [(base, nb)]) = msort (framesOfL l ++ [base]) := by
  unfold framesOfL msort
  rw [List.map_append]
  exact sorted_of_perm ((List.mergeSort_perm _ _).symm.append_right _)

/-- Reap. -/
theorem gone_is (ht : TieS tl l B per) (hn : ∀ t ∈ l, 0 ≤ t.1) : goneD (fun f => hasC tl per f per) (framesOfL l) = goneOf l B per (framesOfL l) := by
  unfold goneD goneOf
  refine List.filter_congr fun s hs => ?_
  have h0 : 0 ≤ s := by
    obtain ⟨t, h1, rfl⟩ := List.mem_map.1 (mem_framesOfL.1 hs)
    exact hn t h1
  simp only [hasC_row ht h0]
  have := cntB_pos (g := rowOf l B s) (k := per)
  cases e : hasB (rowOf l B s) per true with
  | true => rw [e] at this; have := this.2 rfl; simp; omega
  | false =>
    rw [e] at this
    have h2 : ¬ 0 < cntB (rowOf l B s) per := fun h => by have := this.1 h; cases this
    simp; omega
theorem sorted_framesOfL (l : List (Int × Nat)) : (framesOfL l).Pairwise fun x y => x ≤ y := by
  have h := List.pairwise_mergeSort (le := fun x y : Int => decide (x ≤ y)) (fun a b c h1 h2 => by simp at *; omega) (fun a b => by simp; omega) (l.map (·.1))
  exact h.imp (fun h => by simpa using h)
theorem mem_dels {fs : List Int} {l : List (Int × Nat)} (hnd : MNodup l) {f : Int} : f ∈ (dels l fs).map (·.1) ↔ f ∈ l.map (·.1) ∧ f ∉ fs := by
  have hk : ∀ (m : List (Int × Nat)) (x : Int), x ∈ m.map (·.1) ↔ mget m x ≠ none := fun m x => by
    rw [Ne, mget_none_iff]
    constructor
    · intro h hn
      obtain ⟨t, h1, rfl⟩ := List.mem_map.1 h
      exact hn t h1 rfl
    · intro h
      refine Classical.byContradiction fun hx => h fun t ht e => hx (List.mem_map.2 ⟨t, ht, e⟩)
  rw [hk, hk, mget_dels]
  by_cases h : f ∈ fs
  · simp [h]
  · simp [h]
theorem dels_nodup : ∀ {fs : List Int} {l : List (Int × Nat)}, MNodup l → MNodup (dels l fs)
  | [], _, h => h
  | f :: fs, l, h => dels_nodup (fs := fs) (mdel_nodup h f)
theorem eq_of_sorted : ∀ {xs ys : List Int}, xs.Perm ys → xs.Pairwise (fun x y => x ≤ y) → ys.Pairwise (fun x y => x ≤ y) → xs = ys := fun h h1 h2 =>
  List.Perm.eq_of_pairwise (fun a b _ _ h1 h2 => Int.le_antisymm h1 h2) h1 h2 h
theorem left_frames (ht : TieS tl l B per) (hnd : MNodup l) (hn : ∀ t ∈ l, 0 ≤ t.1) : leftD (fun f => hasC tl per f per) (framesOfL l) = framesOfL (dels l (goneOf l B per (framesOfL l))) := by
  rw [← gone_is ht hn]
  have hfn := framesOfL_nodup hnd
  refine eq_of_sorted ?_ ((sorted_framesOfL l).filter _) (sorted_framesOfL _)
  have hfl : (leftD (fun f => hasC tl per f per) (framesOfL l)).Nodup := hfn.filter _
  rw [List.perm_ext_iff_of_nodup hfl (framesOfL_nodup (dels_nodup hnd))]
  intro x
  rw [mem_framesOfL, mem_dels hnd, ← mem_framesOfL]
  unfold leftD goneD
  rw [List.mem_filter, List.mem_filter]
  constructor
  · rintro ⟨h1, h2⟩
    refine ⟨h1, fun h => ?_⟩
    have h2 := of_decide_eq_true h2
    have h3 := of_decide_eq_true h.2
    omega
  · rintro ⟨h1, h2⟩
    refine ⟨h1, decide_eq_true ?_⟩
    rcases Nat.eq_zero_or_pos (hasC tl per x per) with h | h
    · exact absurd ⟨h1, decide_eq_true h⟩ h2
    · exact h
theorem there_reaped (hp : 1 ≤ per) (k : Int) : ThereB l B per k ↔ ThereB (dels l (goneOf l B per (framesOfL l))) B per k := by
  unfold ThereB
  refine and_congr_right fun _ => exists_congr fun b => ?_
  rw [mget_dels]
  by_cases hg : k / (per : Int) ∈ goneOf l B per (framesOfL l)
  · rw [if_pos hg]
    constructor
    · rintro ⟨h1, h2⟩
      have h3 := (List.mem_filter.1 hg).2
      rw [Bool.not_eq_true', hasB_false, rowOf_some h1] at h3
      exact absurd h2 (h3 _ (frame_of per hp k).2)
    · rintro ⟨h1, _⟩; cases h1
  · rw [if_neg hg]
theorem TieS.reaped (ht : TieS tl l B per) (hp : 1 ≤ per) : TieS tl (dels l (goneOf l B per (framesOfL l))) B per := fun k => (ht k).trans (there_reaped hp k)
end
end Go.Proofs.YtiohpmcedfbcgabDoor
