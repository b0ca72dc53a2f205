/- Several texts of ours in one, in build order (RefSlabReap, SlabTie, SlabLaw, SlabKeep). Conditions: each theorem's own premises. -/
import Derived.Test.YtiohpmcedfbcgabDoorRefSlabAlloc
import Derived.Test.YtiohpmcedfbcgabDoorSlabAlloc
import Derived.Test.YtiohpmcedfbcgabDoorPoolsAny
/- The document's Cache: Reap. Conditions: each theorem's own premises. -/
namespace Go.Proofs.YtiohpmcedfbcgabDoor
open Go.RowKit
set_option linter.unusedVariables false

/-- A block that is taken alone can be given back, whatever is free. -/
theorem Good.freed {n : Int} {tk : List (Int × Nat)} : ∀ (d k : Nat) (b : Int) (fr : Fr), k + d = 6 → Good n fr ((b, k) :: tk) → ∃ fr', Good n fr' tk
  | 0, k, b, fr, hk, h => ⟨_, h.putBud (.inl (by omega))⟩
  | d + 1, k, b, fr, hk, h => by
    by_cases hm : bud k b ∈ fr k
    · exact Good.freed d (k + 1) _ _ (by omega) (h.merge (by omega) hm)
    · exact ⟨_, h.putBud (.inr hm)⟩
theorem Good.gone {n : Int} {fr : Fr} {tk : List (Int × Nat)} (h : Good n fr tk) (hn : MNodup tk) {b : Int} {k : Nat} (hk : k ≤ 6) (hm : mget tk b = some k) : ∃ fr', Good n fr' (mdel tk b) :=
  Good.freed (6 - k) k b fr (by omega) (h.perm (mdel_put hn hm))

def goneD (h : Int → Nat) (fs : List Int) : List Int := fs.filter fun f => decide (h f = 0)
def leftD (h : Int → Nat) (fs : List Int) : List Int := fs.filter fun f => decide (0 < h f)
theorem goneD_stay {h : Int → Nat} {fs : List Int} {j : Nat} {s : Int} (hs : fs[j]? = some s) (hp : 0 < h s) : goneD h (fs.take (j + 1)) = goneD h (fs.take j) := by
  unfold goneD
  rw [List.take_add_one, hs, List.filter_append]
  have : ¬ h s = 0 := by omega
  simp [this]
theorem goneD_go {h : Int → Nat} {fs : List Int} {j : Nat} {s : Int} (hs : fs[j]? = some s) (hp : h s = 0) : goneD h (fs.take (j + 1)) = goneD h (fs.take j) ++ [s] := by
  unfold goneD
  rw [List.take_add_one, hs, List.filter_append]
  simp [hp]
theorem leftD_stay {h : Int → Nat} {fs : List Int} {j : Nat} {s : Int} (hs : fs[j]? = some s) (hp : 0 < h s) : leftD h (fs.take (j + 1)) = leftD h (fs.take j) ++ [s] := by
  unfold leftD
  rw [List.take_add_one, hs, List.filter_append]
  simp [hp]
theorem leftD_go {h : Int → Nat} {fs : List Int} {j : Nat} {s : Int} (hs : fs[j]? = some s) (hp : h s = 0) : leftD h (fs.take (j + 1)) = leftD h (fs.take j) := by
  unfold leftD
  rw [List.take_add_one, hs, List.filter_append]
  simp [hp]
theorem goneD_not {h : Int → Nat} {fs : List Int} (hn : fs.Nodup) {j : Nat} {s : Int} (hs : fs[j]? = some s) : s ∉ goneD h (fs.take j) := fun hm => by
  have h1 := (List.mem_filter.1 hm).1
  obtain ⟨i, hi⟩ := List.getElem?_of_mem h1
  have hij : i < j := by
    have := (List.getElem?_eq_some_iff.1 hi).1
    simp at this; omega
  rw [List.getElem?_take_of_lt hij] at hi
  obtain ⟨a1, a2⟩ := List.getElem?_eq_some_iff.1 hi
  obtain ⟨b1, b2⟩ := List.getElem?_eq_some_iff.1 hs
  have := (List.getElem_inj hn).1 (a2.trans b2.symm)
  omega
theorem goneD_left (h : Int → Nat) : ∀ fs : List Int, (goneD h fs).length + (leftD h fs).length = fs.length
  | [] => rfl
  | s :: fs => by
    have ih := goneD_left h fs
    unfold goneD leftD at *
    by_cases hs : h s = 0
    · rw [List.filter_cons_of_pos (by simpa using hs), List.filter_cons_of_neg (by simp [hs])]
      simp only [List.length_cons]; omega
    · rw [List.filter_cons_of_neg (by simpa using hs), List.filter_cons_of_pos (by simp; omega)]
      simp only [List.length_cons]; omega
theorem dels_snoc {β : Type} (l : List (Int × β)) (fs : List Int) (s : Int) : dels l (fs ++ [s]) = mdel (dels l fs) s := by
  unfold dels
  rw [List.foldl_append]; rfl
section
variable {w w' w3 : World} {dc tm rp per fb rmb cp n : Nat} {g : Bits} {tk : List Bk} {v v' : Value} {fs xs : List Int} {tl : List (Int × Unit)}
theorem CacheAt.stored (h : CacheAt w dc tm rp per v fs tl) (hi : IntsAt w v' xs) (hnv : ∀ q, v'.ownBlock = some q → q ≠ dc ∧ q ≠ tm) :
    CacheAt (w.setCell ⟨dc, 3, none⟩ v') dc tm rp per v' xs tl := by
  have s : Turn (fun j => j = dc) w (w.setCell ⟨dc, 3, none⟩ v') := (Turn.refl _ _).setCell _ _ (fun _ => rfl)
  refine ⟨?_, ?_, ?_, World.cell?_setCell_same _ _ _ h.c3, fun i => ?_, hi.turned s (fun q hq e => (hnv q hq).1 e), h.mp.turned s (fun e => h.ne e.symm), h.ne, hnv⟩
  · rw [World.cell?_setCell_other _ _ _ _ (by simp)]; exact h.c0
  · rw [World.cell?_setCell_other _ _ _ _ (by simp)]; exact h.c1
  · rw [World.cell?_setCell_other _ _ _ _ (by simp)]; exact h.c2
  · simpa using h.fz i

/-- What Reap leaves. -/
def RefReaped (rp fb rmb cp n : Nat) (tk : List Bk) (dc tm per : Nat) (v : Value) (fs : List Int) (tl : List (Int × Unit)) (w : World) (e : Ending) (w' : World) : Prop :=
  ∃ (v' : Value) (g' : Bits), e = .returned (.int .i64 (goneD (fun f => hasC tl per f per) fs).length) ∧ CacheAt w' dc tm rp per v' (leftD (fun f => hasC tl per f per) fs) tl ∧
    RefAt w' rp fb rmb cp n g' (dels tk (goneD (fun f => hasC tl per f per) fs)) ∧ BitsOf n (dels tk (goneD (fun f => hasC tl per f per) fs)) g' ∧ Turn (fun k => CFoot dc tm v k ∨ RefFoot rp fb rmb k) w w' ∧ ∀ q, v'.ownBlock = some q → w.heap.size ≤ q
set_option maxHeartbeats 4000000 in
set_option maxRecDepth 100000 in
theorem refReap_any {fr : Fr} (h : CacheAt w dc tm rp per v fs tl) (h1 : 1 ≤ per) (h2 : per ≤ 16) (hl : fs.length ≤ 256) (hnd : fs.Nodup)
    (hr : RefAt w rp fb rmb cp n g tk) (hgo : Good n fr tk) (hbo : BitsOf n tk g) (hn : n ≤ 256) (hap : ∀ k, CFoot dc tm v k → ¬ RefFoot rp fb rmb k) (hh : ∀ f ∈ fs, mget tk f = some 0) :
    Calls Tryd.prog 61 #[.pointer (some ⟨dc, 0, none⟩)] w (RefReaped rp fb rmb cp n tk dc tm per v fs tl w) := by
  have H := hid h
  have HR := hid hr
  have HGo := hid hgo
  have HBo := hid hbo
  have HAp := hid hap
  have HH := hid hh
  have HNd := hid hnd
  have c3 := h.c3
  obtain ⟨a, cap, rfl⟩ : ∃ a cap, v = .slice a fs.length cap := h.fr.slice
  have HTf : Hid (∀ k, CFoot dc tm (.slice a fs.length cap) k → ¬ (k = fb ∨ k = rmb)) := hid (fun k hk e => HAp.out k hk (e.elim (fun e => .inr (.inl e)) fun e => .inr (.inr e)))
  have HF : Hid (∀ f ∈ fs, 0 ≤ f ∧ f < n) := hid (fun f hf => by
    have h1 := HGo.out.okT (f, 0) (mem_of_mget (HH.out f hf))
    have h2 := h1.2.2.2
    have h3 : sz 0 = 1 := rfl
    simp only at h2
    rw [h3] at h2
    exact ⟨h1.2.1, by omega⟩)
  clear h hr hgo hbo hap hh hnd
  go_enter Tryd.func61, Tryd.ntmps61
  go_wp2_with fail
  go_loopg [3, 12] (fs.length) (fun gl u3 i wr => ∃ (j : Nat) (g' : Bits) (fr' : Fr), j + gl = fs.length ∧ i = .int .i64 j ∧ Hid (IntsAt wr u3 (leftD (fun f => hasC tl per f per) (fs.take j))) ∧ Hid (∀ q, u3.ownBlock = some q → w.heap.size ≤ q) ∧ Hid (RefAt wr rp fb rmb cp n g' (dels tk (goneD (fun f => hasC tl per f per) (fs.take j)))) ∧ Hid (Good n fr' (dels tk (goneD (fun f => hasC tl per f per) (fs.take j)))) ∧ Hid (BitsOf n (dels tk (goneD (fun f => hasC tl per f per) (fs.take j))) g') ∧ Hid (Turn (fun k => k = fb ∨ k = rmb) w wr))
  case atStart => exact ⟨0, g, fr, by omega, rfl, hid ⟨by simp, .inl ⟨rfl, by rfl⟩⟩, hid (fun q hq => by cases hq), HR, HGo, HBo, hid (Turn.refl _ _)⟩
  case round =>
    obtain ⟨j, g', fr', hj, rfl, hI, hO, hR, hG, hB, hT⟩ := hrel
    by_cases hjl : j < fs.length
    · have hjl' : (j : Int) < fs.length := by omega
      have HC := hid (H.out.turned hT.out HTf.out)
      obtain ⟨s, hs⟩ : ∃ s, fs[j]? = some s := ⟨_, List.getElem?_eq_getElem hjl⟩
      obtain ⟨ga, hga, hcell⟩ : ∃ ga, a = some ⟨ga, 0, none⟩ ∧ wr.cell? ⟨ga, j, none⟩ = some (.int .i64 s) := by
        rcases HC.out.fr.shape with ⟨_, h2⟩ | ⟨ga, cap, h1, _⟩
        · rw [h2] at hjl; simp at hjl
        · cases h1
          exact ⟨ga, rfl, HC.out.fr.cell j s hs⟩
      subst hga
      obtain ⟨hs0, hs1⟩ := HF.out s (List.mem_of_getElem? hs)
      have HHas := hid (refHas_is HC.out h1 h2 s hs0 (by omega))
      have hhs := HH.out s (List.mem_of_getElem? hs)
      have HS := hid hs
      obtain ⟨N, hN⟩ : ∃ N, hasC tl per s per = N := ⟨_, rfl⟩
      rw [hN] at HHas
      have hNle : N ≤ 16 := by rw [← hN]; exact Nat.le_trans (cntB_le _ _) h2
      have HN := hid hN
      clear hN HC hs
      go_wp2_with fail
      refine HHas.out.mono ?_
      rintro e w2 ⟨rfl, t2⟩
      have hT2 := hT.out.trans (t2.mono fun _ _ h => h.elim)
      have HT2 := hid hT2
      have hI2 := hI.out.turned t2 (fun _ _ => id)
      have HI2 := hid hI2
      have HR2 := hid (hR.out.turned t2 (fun _ _ => id))
      have c0 := (H.out.turned hT2 HTf.out).c0
      have hsz := hT2.size
      clear hT t2 hT2 HHas hcell hR hI
      by_cases hc : 0 < N
      · have hc' : (0 : Int) < N := by omega
        have HO1 : Hid (IntsAt (w2.alloc (.cells #[.int .i64 s] 3)) u3 (leftD (fun f => hasC tl per f per) (fs.take j))) := hid (hI2.turned ((Turn.refl (fun _ => False) _).alloc _) (fun _ _ => id))
        have HC1 : Hid ((w2.alloc (.cells #[.int .i64 s] 3)).cell? ⟨w2.heap.size, 0, none⟩ = some (.int .i64 s)) := hid (by simp)
        have hll : (leftD (fun f => hasC tl per f per) (fs.take j)).length ≤ 1000000 := by
          unfold leftD
          refine Nat.le_trans (List.length_filter_le _ _) ?_
          rw [List.length_take]
          omega
        clear hI2
        go_wp2_with (at_builtin; refine wpList_append_int rfl _ _ rfl u3 _ rfl HO1.out w2.heap.size 1 s rfl HC1.out hll ?_; intro g3 z3 w3 hi3 t3 ho3; have HI3 := hid hi3; have HT3 := hid t3; have HO3 := hid ho3; clear hi3 t3 ho3)
        go_roundg (gk - 1)
        case measure => omega
        case rel =>
          have hro : ∀ {k}, RefFoot rp fb rmb k → ¬ u3.ownBlock = some k := fun {k} hk e => by
            have h1 := hO.out k e
            have h2 := HR.out.foot_lt k hk
            omega
          refine ⟨j + 1, g', fr', by omega, by go_num, ?_, hid ?_, ?_, ?_, ?_, hid ?_⟩
          · rw [leftD_stay HS.out (by simp only [HN.out]; exact hc)]
            exact HI3
          · intro q hq
            cases hq
            rcases HO3.out with h | h
            · exact hO.out _ h
            · rw [World.size_alloc] at h; show w.heap.size ≤ g3; omega
          · rw [goneD_stay HS.out (by simp only [HN.out]; exact hc)]
            exact hid ((HR2.out.turned ((Turn.refl (fun _ => False) _).alloc _) (fun _ _ => id)).turned HT3.out (fun k hk e => hro hk e))
          · rw [goneD_stay HS.out (by simp only [HN.out]; exact hc)]; exact hG
          · rw [goneD_stay HS.out (by simp only [HN.out]; exact hc)]; exact hB
          · exact (HT2.out.alloc _).trans' HT3.out (fun k hk e => by have := hO.out _ e; omega)
      · have hc' : ¬ (0 : Int) < N := by omega
        obtain rfl : N = 0 := by omega
        have hmd : mget (dels tk (goneD (fun f => hasC tl per f per) (fs.take j))) s = some 0 := by
          rw [mget_dels, if_neg (goneD_not HNd.out HS.out)]; exact hhs
        have HGv := hid (refGive_any HR2.out hG.out hn s 0)
        have hgr : giveR (dels tk (goneD (fun f => hasC tl per f per) (fs.take j))) s 0 = 0 := by unfold giveR; rw [hmd]; rfl
        have hgt : giveT (dels tk (goneD (fun f => hasC tl per f per) (fs.take j))) s 0 = mdel (dels tk (goneD (fun f => hasC tl per f per) (fs.take j))) s := by unfold giveT; rw [hmd]; rfl
        have HBg := hid (giveB_bits hB.out hG.out HR2.out.mp.nodup s 0)
        rw [hgr, hgt] at HGv
        rw [hgt] at HBg
        obtain ⟨fr2, hg2⟩ := hG.out.gone HR2.out.mp.nodup (by omega) hmd
        have HG2 := hid hg2
        clear hg2 hgr hgt hmd hI2
        go_wp2_with fail
        refine HGv.out.mono ?_
        rintro e w4 ⟨rfl, hr4, t4⟩
        have HR4 := hid hr4
        have HT4 := hid t4
        clear hr4 t4 HGv
        go_wp2_with fail
        go_roundg (gk - 1)
        case measure => omega
        case rel =>
          refine ⟨j + 1, giveB g' (dels tk (goneD (fun f => hasC tl per f per) (fs.take j))) s 0, fr2, by omega, by go_num, ?_, hO, ?_, ?_, ?_, hid (HT2.out.trans HT4.out)⟩
          · rw [leftD_go HS.out (by simp only [HN.out])]
            exact hid (HI2.out.turned HT4.out (fun q hq e => by
              have h1 := hO.out q hq
              have h2 := HR.out.foot_lt q (e.elim (fun e => .inr (.inl e)) fun e => .inr (.inr e))
              omega))
          · rw [goneD_go HS.out (by simp only [HN.out]), dels_snoc]; exact HR4
          · rw [goneD_go HS.out (by simp only [HN.out]), dels_snoc]; exact HG2
          · rw [goneD_go HS.out (by simp only [HN.out]), dels_snoc]; exact HBg
    · have hjl' : ¬ (j : Int) < fs.length := by omega
      obtain rfl : j = fs.length := by omega
      rw [List.take_length] at hI hR hG hB
      have HC := hid (H.out.turned hT.out HTf.out)
      have c3 := HC.out.c3
      have fz3 := HC.out.fz 3
      obtain ⟨a3, cp3, rfl⟩ := hI.out.slice
      have hgl := goneD_left (fun f => hasC tl per f per) fs
      obtain ⟨LL, hLL⟩ : ∃ LL, leftD (fun f => hasC tl per f per) fs = LL := ⟨_, rfl⟩
      obtain ⟨GG, hGG⟩ : ∃ GG, goneD (fun f => hasC tl per f per) fs = GG := ⟨_, rfl⟩
      rw [hLL, hGG] at hgl
      rw [hLL] at hI hO
      rw [hGG] at hR hG hB
      have hsub : ((fs.length : Nat) : Int) - LL.length = GG.length := by omega
      have hw3 : IntKind.i64.wrap ((fs.length : Nat) - (LL.length : Int)) = GG.length := by rw [hsub]; exact IntWalk.i64_in _ (by omega)
      have HLL := hid hLL
      have HGG := hid hGG
      clear hLL hGG hsub
      rw [HLL.out]
      go_wp2_with fail
      go_ret
      have hO' := hO.out
      refine ⟨_, g', by rw [HGG.out]; rfl, ?_, ?_, by rw [HGG.out]; exact hB.out, ?_, hO'⟩
      · rw [HLL.out]
        exact HC.out.stored hI.out (fun q hq => by
          have h1 := hO' q hq
          have h2 := H.out.foot_lt dc (.inl rfl)
          have h3 := H.out.foot_lt tm (.inr (.inl rfl))
          exact ⟨by omega, by omega⟩)
      · rw [HGG.out]
        exact hR.out.turned ((Turn.refl (fun k => k = dc) _).setCell _ _ (fun _ => rfl)) (fun k hk e => HAp.out dc (.inl rfl) (e ▸ hk))
      · exact (hT.out.mono fun k _ e => .inr (e.elim (fun e => .inr (.inl e)) fun e => .inr (.inr e))).setCell _ _ (fun _ => .inl (.inl rfl))
end
end Go.Proofs.YtiohpmcedfbcgabDoor
/- A cache and the document's: the tie between them, and that both pick, count and reap alike. No program in sight. Conditions: each theorem's own premises. -/
namespace Go.Proofs.YtiohpmcedfbcgabDoor
set_option linter.unusedVariables false

/-- The document's things are those that are there. -/
def TieS (tl : List (Int × Unit)) (l : List (Int × Nat)) (B : Nat → Nat → Bool) (per : Nat) : Prop := ∀ k : Int, (mget tl k).isSome = true ↔ ThereB l B per k

theorem cntB_lt {g : Nat → Bool} {k : Nat} : cntB g k < k ↔ hasB g k false = true := by
  rw [hasB_true]
  constructor
  · intro h
    obtain ⟨j, h1, h2, _⟩ := cntB_first h
    exact ⟨j, h1, h2⟩
  · rintro ⟨j, h1, h2⟩
    rcases Nat.lt_or_ge (cntB g k) k with h | h
    · exact h
    · have := cntB_all (g := g) (k := k) (Nat.le_antisymm (cntB_le g k) h) j h1
      rw [this] at h2; cases h2
theorem cntB_pos {g : Nat → Bool} {k : Nat} : 0 < cntB g k ↔ hasB g k true = true := by
  unfold cntB
  rw [hasB_true, List.length_pos_iff_exists_mem]
  constructor
  · rintro ⟨j, hj⟩
    obtain ⟨h1, h2⟩ := List.mem_filter.1 hj
    exact ⟨j, List.mem_range.1 h1, h2⟩
  · rintro ⟨j, h1, h2⟩
    exact ⟨j, List.mem_filter.2 ⟨List.mem_range.2 h1, h2⟩⟩
theorem frame_div {f : Int} {per j : Nat} (hj : j < per) : (f * per + j) / (per : Int) = f ∧ (f * per + j) % (per : Int) = j := by
  have h0 : (per : Int) ≠ 0 := by omega
  have h1 : f * per + j = (j : Int) + f * per := Int.add_comm ..
  have h2 : (j : Int) / per = 0 := Int.ediv_eq_zero_of_lt (by omega) (by omega)
  have h3 : (j : Int) % per = j := Int.emod_eq_of_lt (by omega) (by omega)
  rw [h1]
  refine ⟨?_, ?_⟩
  · rw [Int.add_mul_ediv_right _ _ h0, h2]; omega
  · rw [Int.add_mul_emod_self_right, h3]
theorem frame_of (per : Nat) (hp : 1 ≤ per) (k : Int) : k = k / per * per + ((k % per).toNat : Nat) ∧ (k % (per : Int)).toNat < per := by
  have h0 : (0 : Int) < per := by omega
  have h1 := Int.emod_nonneg k (show (per : Int) ≠ 0 by omega)
  have h2 := Int.emod_lt_of_pos k h0
  have h3 := Int.emod_add_mul_ediv k per
  rw [Int.mul_comm] at h3
  have h4 : ((k % (per : Int)).toNat : Int) = k % per := by omega
  refine ⟨?_, by omega⟩
  omega
section
variable {l : List (Int × Nat)} {B : Nat → Nat → Bool} {per : Nat} {tl : List (Int × Unit)}
theorem there_iff {f : Int} {j : Nat} (hf : 0 ≤ f) (hj : j < per) : ThereB l B per (f * per + j) ↔ ∃ b, mget l f = some b ∧ B b j = true := by
  obtain ⟨h1, h2⟩ := frame_div (f := f) hj
  unfold ThereB
  rw [h1, h2, Int.toNat_natCast]
  have : 0 ≤ f * per := Int.mul_nonneg hf (by omega)
  constructor
  · exact fun h => h.2
  · exact fun h => ⟨by omega, h⟩
theorem rowOf_iff {f : Int} {j : Nat} : rowOf l B f j = true ↔ ∃ b, mget l f = some b ∧ B b j = true := by
  unfold rowOf
  cases h : mget l f with
  | none => simp
  | some b => simp
theorem hasC_row (ht : TieS tl l B per) {f : Int} (hf : 0 ≤ f) : hasC tl per f per = cntB (rowOf l B f) per :=
  cntB_congr fun j hj => by
    rw [Bool.eq_iff_iff, ht, there_iff hf hj, rowOf_iff]

theorem docPass_stay {h : Int → Nat} {per : Nat} {want : Bool} : ∀ {fs : List Int} {f : Int}, 0 ≤ f → docPass h per want fs f = f
  | [], f, _ => rfl
  | s :: fs, f, hf => by
    rw [docPass_no (fun hc => by have := hc.1; omega)]
    exact docPass_stay hf
theorem pass_pick (h : Int → Nat) (per : Nat) (room some : Int → Bool) : ∀ (fs : List Int) (b : Int), (∀ s ∈ fs, 0 ≤ s ∧ (room s = true ↔ h s < per) ∧ (some s = true ↔ 0 < h s)) →
    pickF room some fs b = if 0 ≤ docPass h per true fs (-1) then docPass h per true fs (-1) else docPass h per false fs b
  | [], b, _ => by unfold pickF docPass; rw [if_neg (by decide)]
  | s :: fs, b, hs => by
    obtain ⟨h0, h1, h2⟩ := hs s (List.mem_cons_self ..)
    have ih := fun b => pass_pick h per room some fs b (fun t ht => hs t (List.mem_cons_of_mem _ ht))
    by_cases hr : h s < per
    · have r1 : room s = true := h1.2 hr
      by_cases hm : 0 < h s
      · have m1 : some s = true := h2.2 hm
        have e1 : pickF room some (s :: fs) b = s := by
          show (if room s then (if some s then s else _) else _) = s
          rw [r1, m1]; rfl
        rw [e1, docPass_yes (by decide) hr (by simp [hm]), docPass_stay h0, if_pos h0]
      · have m1 : some s = false := by
          cases e : some s with
          | false => rfl
          | true => exact absurd (h2.1 e) hm
        have e1 : pickF room some (s :: fs) b = pickF room some fs (if b < 0 then s else b) := by
          show (if room s then (if some s then s else _) else _) = _
          rw [r1, m1]; rfl
        rw [e1, ih, docPass_no (h := h) (want := true) (f := -1) (fun hc => by have := hc.2.2; simp [hm] at this)]
        have e2 : docPass h per false (s :: fs) b = docPass h per false fs (if b < 0 then s else b) := by
          by_cases hb : b < 0
          · rw [if_pos hb, docPass_yes hb hr (by simp [hm])]
          · rw [if_neg hb, docPass_no (fun hc => hb hc.1)]
        rw [e2]
    · have r1 : room s = false := by
        cases e : room s with
        | false => rfl
        | true => exact absurd (h1.1 e) hr
      have e1 : pickF room some (s :: fs) b = pickF room some fs b := by
        show (if room s then _ else pickF room some fs b) = _
        rw [r1]; rfl
      rw [e1, ih, docPass_no (h := h) (want := true) (f := -1) (fun hc => hr hc.2.1), docPass_no (h := h) (want := false) (f := b) (fun hc => hr hc.2.1)]
theorem docPick_is (ht : TieS tl l B per) (hn : ∀ t ∈ l, 0 ≤ t.1) : docPick (fun f => hasC tl per f per) per (framesOfL l) = pickOf l B per := by
  have hn2 : ∀ s ∈ framesOfL l, 0 ≤ s := fun s hs => by
    obtain ⟨t, h1, rfl⟩ := List.mem_map.1 (mem_framesOfL.1 hs)
    exact hn t h1
  have h1 := pass_pick (fun f => hasC tl per f per) per (fun f => hasB (rowOf l B f) per false) (fun f => hasB (rowOf l B f) per true) (framesOfL l) (-1) (fun s hs => by
    have h0 := hn2 s hs
    refine ⟨h0, ?_, ?_⟩
    · simp only [hasC_row ht h0]; exact cntB_lt.symm
    · simp only [hasC_row ht h0]; exact cntB_pos.symm)
  unfold docPick pickOf pickS
  rw [h1]
  rcases docPass_mem (fun f => hasC tl per f per) per true (framesOfL l) (-1) with h2 | ⟨h2, _⟩
  · rw [h2, if_neg (by decide)]
  · have h3 := hn2 _ h2
    rw [if_pos h3, docPass_stay h3]

/-- How many things there are. -/
def placesOf (l : List (Int × Nat)) (B : Nat → Nat → Bool) (per : Nat) : List Int := l.flatMap fun t => ((List.range per).filter (B t.2)).map fun j : Nat => t.1 * per + (j : Int)
theorem mem_places1 {t : Int × Nat} {x : Int} : x ∈ ((List.range per).filter (B t.2)).map (fun j : Nat => t.1 * per + (j : Int)) ↔ ∃ j, j < per ∧ B t.2 j = true ∧ t.1 * per + (j : Int) = x := by
  rw [List.mem_map]
  constructor
  · rintro ⟨j, hj, e⟩
    obtain ⟨h1, h2⟩ := List.mem_filter.1 hj
    exact ⟨j, List.mem_range.1 h1, h2, e⟩
  · rintro ⟨j, h1, h2, e⟩
    exact ⟨j, List.mem_filter.2 ⟨List.mem_range.2 h1, h2⟩, e⟩
theorem places_length (l : List (Int × Nat)) : (placesOf l B per).length = thingsOf l B per := by
  induction l with
  | nil => rfl
  | cons t l ih =>
    have e : placesOf (t :: l) B per = ((List.range per).filter (B t.2)).map (fun j : Nat => t.1 * per + (j : Int)) ++ placesOf l B per := by simp [placesOf]
    rw [e, List.length_append, List.length_map, ih]
    simp [thingsOf, cntB]
theorem mem_places (hnd : MNodup l) (h0 : ∀ t ∈ l, 0 ≤ t.1) (hp : 1 ≤ per) {x : Int} : x ∈ placesOf l B per ↔ ThereB l B per x := by
  unfold placesOf
  rw [List.mem_flatMap]
  constructor
  · rintro ⟨t, ht, hx⟩
    obtain ⟨j, h1, h2, rfl⟩ := mem_places1.1 hx
    exact (there_iff (h0 t ht) h1).2 ⟨t.2, mget_mem hnd ht, h2⟩
  · rintro ⟨hx0, b, hb, hv⟩
    obtain ⟨e1, e2⟩ := frame_of per hp x
    exact ⟨(x / per, b), mem_of_mget hb, mem_places1.2 ⟨_, e2, hv, e1.symm⟩⟩
theorem nodup_places {l : List (Int × Nat)} (hnd : MNodup l) : (placesOf l B per).Nodup := by
  induction l with
  | nil => exact List.nodup_nil
  | cons t l ih =>
    unfold MNodup at hnd
    rw [List.map_cons, List.nodup_cons] at hnd
    have e : placesOf (t :: l) B per = ((List.range per).filter (B t.2)).map (fun j : Nat => t.1 * per + (j : Int)) ++ placesOf l B per := by simp [placesOf]
    rw [e, List.nodup_append]
    refine ⟨?_, ih hnd.2, ?_⟩
    · rw [List.Nodup, List.pairwise_map]
      exact ((List.nodup_range (n := per)).filter _).imp (fun hne e => hne (by omega))
    · intro a ha b hb e
      subst e
      obtain ⟨j, h1, _, e1⟩ := mem_places1.1 ha
      unfold placesOf at hb
      obtain ⟨s, hs, hx⟩ := List.mem_flatMap.1 hb
      obtain ⟨i, h2, _, e2⟩ := mem_places1.1 hx
      have d1 := (frame_div (f := t.1) h1).1
      have d2 := (frame_div (f := s.1) h2).1
      rw [e1] at d1
      rw [e2] at d2
      exact hnd.1 (List.mem_map.2 ⟨s, hs, by rw [← d2, d1]⟩)
theorem things_len (ht : TieS tl l B per) (hp : 1 ≤ per) (hnd : MNodup l) (h0 : ∀ t ∈ l, 0 ≤ t.1) (hnt : MNodup tl) : tl.length = thingsOf l B per := by
  have hp2 : (tl.map Prod.fst).Perm (placesOf l B per) := by
    rw [List.perm_ext_iff_of_nodup hnt (nodup_places hnd)]
    intro x
    rw [mem_places hnd h0 hp, ← ht x]
    constructor
    · intro hx
      obtain ⟨⟨k, u⟩, h1, rfl⟩ := List.mem_map.1 hx
      rw [mget_mem hnt h1]; rfl
    · intro hx
      obtain ⟨u, hu⟩ := Option.isSome_iff_exists.1 hx
      exact List.mem_map.2 ⟨(x, u), mem_of_mget hu, rfl⟩
  have := hp2.length_eq
  rw [List.length_map, places_length] at this
  exact this

/-- One thing made, or gone. -/
theorem inj_key (inj : (l.map (·.2)).Nodup) {f f' : Int} {b : Nat} (h : mget l f = some b) (h' : mget l f' = some b) : f = f' := by
  have m1 := mem_of_mget h
  have m2 := mem_of_mget h'
  obtain ⟨i, hi⟩ := List.getElem?_of_mem m1
  obtain ⟨j, hj⟩ := List.getElem?_of_mem m2
  obtain ⟨a1, a2⟩ := List.getElem?_eq_some_iff.1 hi
  obtain ⟨b1, b2⟩ := List.getElem?_eq_some_iff.1 hj
  have e : i = j := (List.getElem_inj (xs := l.map (·.2)) (h₀ := by simpa using a1) (h₁ := by simpa using b1) inj).1 (by rw [List.getElem_map, List.getElem_map, a2, b2])
  subst e
  rw [hi] at hj
  cases hj; rfl
theorem there_set (inj : (l.map (·.2)).Nodup) (hp : 1 ≤ per) {f : Int} {b j : Nat} (hb : mget l f = some b) (hf : 0 ≤ f) (hj : j < per) (v : Bool) (k : Int) :
    ThereB l (updR B b (setB (B b) j v)) per k ↔ if k = f * per + j then v = true else ThereB l B per k := by
  by_cases hk : k = f * per + j
  · rw [if_pos hk, hk, there_iff hf hj]
    constructor
    · rintro ⟨b', h1, h2⟩
      rw [hb] at h1; cases h1
      rw [updR_same] at h2
      unfold setB at h2
      rw [if_pos rfl] at h2
      exact h2
    · intro h
      refine ⟨b, hb, ?_⟩
      rw [updR_same]
      unfold setB
      rw [if_pos rfl]
      exact h
  · rw [if_neg hk]
    obtain ⟨e1, e2⟩ := frame_of per hp k
    unfold ThereB
    refine and_congr_right fun _ => exists_congr fun b' => and_congr_right fun hb' => ?_
    by_cases e : b' = b
    · subst e
      have hkf := inj_key inj hb' hb
      have hne : ¬ (k % (per : Int)).toNat = j := fun e3 => hk (by rw [← e3, ← hkf]; exact e1)
      rw [updR_same]
      unfold setB
      rw [if_neg hne]
    · rw [updR_other _ _ e]
theorem TieS.made (ht : TieS tl l B per) (inj : (l.map (·.2)).Nodup) (hp : 1 ≤ per) {f : Int} {b j : Nat} (hb : mget l f = some b) (hf : 0 ≤ f) (hj : j < per) : TieS (mput tl (f * per + j) ()) l (updR B b (setB (B b) j true)) per := fun k => by
  rw [there_set inj hp hb hf hj, mget_mput]
  by_cases hk : k = f * per + j
  · rw [if_pos hk, if_pos hk]; simp
  · rw [if_neg hk, if_neg hk]; exact ht k
theorem TieS.went (ht : TieS tl l B per) (inj : (l.map (·.2)).Nodup) (hp : 1 ≤ per) {f : Int} {b j : Nat} (hb : mget l f = some b) (hf : 0 ≤ f) (hj : j < per) : TieS (mdel tl (f * per + j)) l (updR B b (setB (B b) j false)) per := fun k => by
  rw [there_set inj hp hb hf hj, mget_mdel]
  by_cases hk : k = f * per + j
  · rw [if_pos hk, if_pos hk]; simp
  · rw [if_neg hk, if_neg hk]; exact ht k
theorem there_new (hp : 1 ≤ per) {base : Int} {nb : Nat} (h0 : 0 ≤ base) (hb : mget l base = none) (hnb : ∀ t ∈ l, t.2 ≠ nb) (k : Int) : ThereB (l ++ [(base, nb)]) (updR B nb (setB (fun _ => false) 0 true)) per k ↔ if k = base * per then True else ThereB l B per k := by
  have hm : ∀ x, mget (l ++ [(base, nb)]) x = if x = base then some nb else mget l x := fun x => by rw [← mput_newS hb, mget_mput]
  obtain ⟨e1, e2⟩ := frame_of per hp k
  by_cases hk : k = base * per
  · rw [if_pos hk]
    refine iff_true_intro ?_
    have h1 := (there_iff (l := l ++ [(base, nb)]) (B := updR B nb (setB (fun _ => false) 0 true)) (per := per) (f := base) (j := 0) h0 (by omega)).2 ⟨nb, by rw [hm, if_pos rfl], by rw [updR_same]; rfl⟩
    rw [hk]
    simpa using h1
  · rw [if_neg hk]
    unfold ThereB
    refine and_congr_right fun _ => ?_
    rw [hm]
    by_cases e : k / (per : Int) = base
    · rw [if_pos e, e, hb]
      constructor
      · rintro ⟨b', h1, h2⟩
        cases h1
        rw [updR_same] at h2
        unfold setB at h2
        by_cases e3 : (k % (per : Int)).toNat = 0
        · exact absurd (by rw [e1, e3, e]; simp) hk
        · rw [if_neg e3] at h2; cases h2
      · rintro ⟨b', h1, _⟩; cases h1
    · rw [if_neg e]
      refine exists_congr fun b' => and_congr_right fun hb' => ?_
      rw [updR_other _ _ (fun e4 => hnb _ (mem_of_mget hb') e4)]
theorem TieS.new (ht : TieS tl l B per) (hp : 1 ≤ per) {base : Int} {nb : Nat} (h0 : 0 ≤ base) (hb : mget l base = none) (hnb : ∀ t ∈ l, t.2 ≠ nb) : TieS (mput tl (base * per) ()) (l ++ [(base, nb)]) (updR B nb (setB (fun _ => false) 0 true)) per := fun k => by
  rw [mget_mput, there_new hp h0 hb hnb]
  by_cases hk : k = base * per
  · rw [if_pos hk, if_pos hk]; simp
  · rw [if_neg hk, if_neg hk]; exact ht k
theorem frames_new (l : List (Int × Nat)) (base : Int) (nb : Nat) : framesOfL (l ++ [(base, nb)]) = msort (framesOfL l ++ [base]) := by
  unfold framesOfL msort
  rw [List.map_append]
  exact sorted_of_perm ((List.mergeSort_perm _ _).symm.append_right _)

/-- Reap. -/
theorem gone_is (ht : TieS tl l B per) (hn : ∀ t ∈ l, 0 ≤ t.1) : goneD (fun f => hasC tl per f per) (framesOfL l) = goneOf l B per (framesOfL l) := by
  unfold goneD goneOf
  refine List.filter_congr fun s hs => ?_
  have h0 : 0 ≤ s := by
    obtain ⟨t, h1, rfl⟩ := List.mem_map.1 (mem_framesOfL.1 hs)
    exact hn t h1
  simp only [hasC_row ht h0]
  have := cntB_pos (g := rowOf l B s) (k := per)
  cases e : hasB (rowOf l B s) per true with
  | true => rw [e] at this; have := this.2 rfl; simp; omega
  | false =>
    rw [e] at this
    have h2 : ¬ 0 < cntB (rowOf l B s) per := fun h => by have := this.1 h; cases this
    simp; omega
theorem sorted_framesOfL (l : List (Int × Nat)) : (framesOfL l).Pairwise fun x y => x ≤ y := by
  have h := List.pairwise_mergeSort (le := fun x y : Int => decide (x ≤ y)) (fun a b c h1 h2 => by simp at *; omega) (fun a b => by simp; omega) (l.map (·.1))
  exact h.imp (fun h => by simpa using h)
theorem mem_dels {fs : List Int} {l : List (Int × Nat)} (hnd : MNodup l) {f : Int} : f ∈ (dels l fs).map (·.1) ↔ f ∈ l.map (·.1) ∧ f ∉ fs := by
  have hk : ∀ (m : List (Int × Nat)) (x : Int), x ∈ m.map (·.1) ↔ mget m x ≠ none := fun m x => by
    rw [Ne, mget_none_iff]
    constructor
    · intro h hn
      obtain ⟨t, h1, rfl⟩ := List.mem_map.1 h
      exact hn t h1 rfl
    · intro h
      refine Classical.byContradiction fun hx => h fun t ht e => hx (List.mem_map.2 ⟨t, ht, e⟩)
  rw [hk, hk, mget_dels]
  by_cases h : f ∈ fs
  · simp [h]
  · simp [h]
theorem dels_nodup : ∀ {fs : List Int} {l : List (Int × Nat)}, MNodup l → MNodup (dels l fs)
  | [], _, h => h
  | f :: fs, l, h => dels_nodup (fs := fs) (mdel_nodup h f)
theorem eq_of_sorted : ∀ {xs ys : List Int}, xs.Perm ys → xs.Pairwise (fun x y => x ≤ y) → ys.Pairwise (fun x y => x ≤ y) → xs = ys := fun h h1 h2 =>
  List.Perm.eq_of_pairwise (fun a b _ _ h1 h2 => Int.le_antisymm h1 h2) h1 h2 h
theorem left_frames (ht : TieS tl l B per) (hnd : MNodup l) (hn : ∀ t ∈ l, 0 ≤ t.1) : leftD (fun f => hasC tl per f per) (framesOfL l) = framesOfL (dels l (goneOf l B per (framesOfL l))) := by
  rw [← gone_is ht hn]
  have hfn := framesOfL_nodup hnd
  refine eq_of_sorted ?_ ((sorted_framesOfL l).filter _) (sorted_framesOfL _)
  have hfl : (leftD (fun f => hasC tl per f per) (framesOfL l)).Nodup := hfn.filter _
  rw [List.perm_ext_iff_of_nodup hfl (framesOfL_nodup (dels_nodup hnd))]
  intro x
  rw [mem_framesOfL, mem_dels hnd, ← mem_framesOfL]
  unfold leftD goneD
  rw [List.mem_filter, List.mem_filter]
  constructor
  · rintro ⟨h1, h2⟩
    refine ⟨h1, fun h => ?_⟩
    have h2 := of_decide_eq_true h2
    have h3 := of_decide_eq_true h.2
    omega
  · rintro ⟨h1, h2⟩
    refine ⟨h1, decide_eq_true ?_⟩
    rcases Nat.eq_zero_or_pos (hasC tl per x per) with h | h
    · exact absurd ⟨h1, decide_eq_true h⟩ h2
    · exact h
theorem there_reaped (hp : 1 ≤ per) (k : Int) : ThereB l B per k ↔ ThereB (dels l (goneOf l B per (framesOfL l))) B per k := by
  unfold ThereB
  refine and_congr_right fun _ => exists_congr fun b => ?_
  rw [mget_dels]
  by_cases hg : k / (per : Int) ∈ goneOf l B per (framesOfL l)
  · rw [if_pos hg]
    constructor
    · rintro ⟨h1, h2⟩
      have h3 := (List.mem_filter.1 hg).2
      rw [Bool.not_eq_true', hasB_false, rowOf_some h1] at h3
      exact absurd h2 (h3 _ (frame_of per hp k).2)
    · rintro ⟨h1, _⟩; cases h1
  · rw [if_neg hg]
theorem TieS.reaped (ht : TieS tl l B per) (hp : 1 ≤ per) : TieS tl (dels l (goneOf l B per (framesOfL l))) B per := fun k => (ht k).trans (there_reaped hp k)
end
end Go.Proofs.YtiohpmcedfbcgabDoor
/- A cache over a pool, and the document's over its own: what they are together; after each operation of both they answer alike and are tied again. Conditions: each theorem's own premises. -/
namespace Go.Proofs.YtiohpmcedfbcgabDoor
open Go.RowKit
set_option linter.unusedVariables false

structure SPair (W w : World) (p mb : Nat) (vs : Nat → Value) (q : Pl) (cb sm per : Nat) (l : List (Int × Nat)) (B : Nat → Nat → Bool) (rp fb rmb cp n : Nat) (g : Bits) (tk : List Bk) (dc tm : Nat) (v : Value) (fs : List Int) (tl : List (Int × Unit)) : Prop where
  sp : SPool w p mb vs q cb sm per l B
  ref : RefAt w rp fb rmb cp n g tk
  ca : CacheAt w dc tm rp per v fs tl
  turn : Turn (fun _ => False) W w
  newS : ∀ k, Feet p mb vs cb sm l k → W.heap.size ≤ k
  newR : ∀ k, RefFoot rp fb rmb k → W.heap.size ≤ k
  newC : ∀ k, CFoot dc tm v k → W.heap.size ≤ k
  apR : ∀ k, Feet p mb vs cb sm l k → ¬ RefFoot rp fb rmb k
  apC : ∀ k, Feet p mb vs cb sm l k → ¬ CFoot dc tm v k
  apCR : ∀ k, CFoot dc tm v k → ¬ RefFoot rp fb rmb k
section
variable {W w w' : World} {p mb cb sm per rp fb rmb cp n dc tm : Nat} {vs : Nat → Value} {q q' : Pl} {l l' : List (Int × Nat)} {B B' : Nat → Nat → Bool} {g g' : Bits} {tk tk' : List Bk} {v v' : Value} {fs fs' : List Int} {tl tl' : List (Int × Unit)} {fr : Fr}
theorem SPair.turned (h : SPair W w p mb vs q cb sm per l B rp fb rmb cp n g tk dc tm v fs tl) (t : Turn (fun _ => False) w w') : SPair W w' p mb vs q cb sm per l B rp fb rmb cp n g tk dc tm v fs tl :=
  { h with sp := h.sp.turned t (fun _ _ => id), ref := h.ref.turned t (fun _ _ => id), ca := h.ca.turned t (fun _ _ => id), turn := h.turn.trans t }
theorem SPair.doc (h : SPair W w p mb vs q cb sm per l B rp fb rmb cp n g tk dc tm v fs tl) (hr : RefAt w' rp fb rmb cp n g' tk') (hc : CacheAt w' dc tm rp per v' fs' tl') (t : Turn (fun k => CFoot dc tm v k ∨ RefFoot rp fb rmb k) w w')
    (hv : ∀ q, v'.ownBlock = some q → v.ownBlock = some q ∨ w.heap.size ≤ q) : SPair W w' p mb vs q cb sm per l B rp fb rmb cp n g' tk' dc tm v' fs' tl' := by
  have hcf : ∀ k, CFoot dc tm v' k → CFoot dc tm v k ∨ w.heap.size ≤ k := fun k hk => by
    rcases hk with h1 | h1 | h1
    · exact .inl (.inl h1)
    · exact .inl (.inr (.inl h1))
    · exact (hv k h1).imp (fun e => .inr (.inr e)) id
  refine ⟨h.sp.turned t (fun k hk e => e.elim (h.apC k hk) (h.apR k hk)), hr, hc, h.turn.trans' t (fun k hk e => e.elim (fun e => by have := h.newC k e; omega) (fun e => by have := h.newR k e; omega)), h.newS, h.newR, fun k hk => ?_, h.apR, fun k hk hk2 => ?_, fun k hk hk2 => ?_⟩
  · rcases hcf k hk with h1 | h1
    · exact h.newC k h1
    · exact Nat.le_trans h.turn.size h1
  · rcases hcf k hk2 with h1 | h1
    · exact h.apC k hk h1
    · have := h.sp.feet_lt k hk; omega
  · rcases hcf k hk with h1 | h1
    · exact h.apCR k h1 hk2
    · have := h.ref.foot_lt k hk2; omega
theorem SPair.prog (h : SPair W w p mb vs q cb sm per l B rp fb rmb cp n g tk dc tm v fs tl) (ha : SAfter p mb vs cb sm per l w w' q' l' B') : ∃ vs', SPair W w' p mb vs' q' cb sm per l' B' rp fb rmb cp n g tk dc tm v fs tl := by
  obtain ⟨vs', a, t, c⟩ := ha
  refine ⟨vs', a, h.ref.turned t (fun k hk e => h.apR k e hk), h.ca.turned t (fun k hk e => h.apC k e hk), h.turn.trans' t (fun k hk e => by have := h.newS k e; omega), fun k hk => ?_, h.newR, h.newC, fun k hk hk2 => ?_, fun k hk hk2 => ?_, h.apCR⟩
  · rcases c k hk with h1 | h1
    · exact h.newS k h1
    · exact Nat.le_trans h.turn.size h1
  · rcases c k hk with h1 | h1
    · exact h.apR k h1 hk2
    · have := h.ref.foot_lt k hk2; omega
  · rcases c k hk with h1 | h1
    · exact h.apC k h1 hk2
    · have := h.ca.foot_lt k hk2; omega
theorem SPool.pooled {fr' : Fr} (h : SPool w p mb vs q cb sm per l B) (hp : PoolAfter p mb vs w w' ⟨q.n, fr', tk'⟩) (hg : Good q.n fr' tk') (hk : ∀ t ∈ l, mget tk' t.1 = some 0) : SAfter p mb vs cb sm per l w w' ⟨q.n, fr', tk'⟩ l B := by
  obtain ⟨vs', a, t, c⟩ := hp
  refine ⟨vs', ⟨a, hg, h.hn, h.slab.turned t h.ap, hk, fun k hk hf => ?_, h.p1, h.p2⟩, t.mono fun _ _ h => .inl h, fun k hk => ?_⟩
  · rcases c k hf with h1 | h1
    · exact h.ap k hk h1
    · have := h.slab.foot_lt k hk; omega
  · rcases hk with h1 | h1
    · exact (c k h1).imp .inl id
    · exact .inl (.inr h1)

/-- Both, tied. -/
def SLaw (W w : World) (p mb cb sm per rp fb rmb cp n dc tm : Nat) : Prop :=
  ∃ (vs : Nat → Value) (fr : Fr) (tk : List Bk) (l : List (Int × Nat)) (B : Nat → Nat → Bool) (g : Bits) (v : Value) (tl : List (Int × Unit)),
    SPair W w p mb vs ⟨(n : Int), fr, tk⟩ cb sm per l B rp fb rmb cp n g tk dc tm v (framesOfL l) tl ∧ BitsOf n tk g ∧ TieS tl l B per
theorem nonneg_of (h : SPool w p mb vs q cb sm per l B) : ∀ t ∈ l, 0 ≤ t.1 := fun t ht => (h.frame t ht).1
theorem frames_in (h : SPool w p mb vs q cb sm per l B) : ∀ f ∈ framesOfL l, 0 ≤ f ∧ f < 256 := fun f hf => by
  obtain ⟨t, h1, rfl⟩ := List.mem_map.1 (mem_framesOfL.1 hf)
  have h2 := h.frame t h1
  have h3 := h.hn
  exact ⟨h2.1, by omega⟩
theorem frames_held (h : SPool w p mb vs q cb sm per l B) : ∀ f ∈ framesOfL l, mget q.tk f = some 0 := fun f hf => by
  obtain ⟨t, h1, rfl⟩ := List.mem_map.1 (mem_framesOfL.1 hf)
  exact h.held t h1
theorem free_nothing (h : SPool w p mb vs q cb sm per l B) (ht : TieS tl l B per) : ∀ k b, k < 7 → b ∈ q.fr k → mget tl (b * per) = none := fun k b hk hb => by
  have hok := h.good.okF k b hk hb
  cases e : mget tl (b * per) with
  | none => rfl
  | some u =>
    exfalso
    have h1 := (ht (b * per)).1 (by rw [e]; rfl)
    have h2 := (there_iff (l := l) (B := B) (per := per) (f := b) (j := 0) hok.2.1 (by have := h.p1; omega)).1 (by simpa using h1)
    obtain ⟨nb, h3, _⟩ := h2
    have h4 := h.held _ (mem_of_mget h3)
    refine h.good.ft k b hk hb (b, 0) (mem_of_mget h4) ?_
    have h5 := sz_pos k
    have h6 := sz_pos 0
    exact ⟨by simp only; omega, by simp only; omega⟩
theorem least_same {fr : Fr} {o k k' : Nat} {b b' : Int} (h1 : o ≤ k) (hk : k < 7) (hlow : ∀ j, o ≤ j → j < k → fr j = []) (hb : b ∈ fr k) (hl : ∀ c ∈ fr k, b ≤ c)
    (h1' : o ≤ k') (hk' : k' < 7) (hlow' : ∀ j, o ≤ j → j < k' → fr j = []) (hb' : b' ∈ fr k') (hl' : ∀ c ∈ fr k', b' ≤ c) : k' = k ∧ b' = b := by
  have hkk : k' = k := by
    rcases Nat.lt_trichotomy k' k with h | h | h
    · rw [hlow k' h1' h] at hb'; cases hb'
    · exact h
    · rw [hlow' k h1 h] at hb; cases hb
  subst hkk
  have e1 := hl b' hb'
  have e2 := hl' b hb
  exact ⟨rfl, by omega⟩

/-- Alloc of both. -/
def DocAlloc (rp fb rmb cp n : Nat) (g : Bits) (tk : List Bk) (fr : Fr) (dc tm per : Nat) (v : Value) (fs : List Int) (tl : List (Int × Unit)) (w : World) (e : Ending) (w' : World) : Prop :=
  RefOld rp dc tm per v fs tl (docPick (fun f => hasC tl per f per) per fs) w e w' ∨ RefFull dc fr (docPick (fun f => hasC tl per f per) per fs) w e w' ∨ RefNew rp fb rmb cp n g tk fr dc tm per v fs tl (docPick (fun f => hasC tl per f per) per fs) w e w'
def ProgAlloc (p mb : Nat) (vs : Nat → Value) (q : Pl) (cb sm per : Nat) (l : List (Int × Nat)) (B : Nat → Nat → Bool) (w : World) (e : Ending) (w' : World) : Prop :=
  SlabOld p mb vs q cb sm per l B w e w' ∨ SlabFull p mb vs q cb sm per l B w e w' ∨ SlabNew p mb vs q cb sm per l B w e w'
theorem errB12 : errB 12 = .iface 40 (.int .i64 12) := rfl
theorem errB7 : errB 7 = .iface 40 (.int .i64 7) := rfl
theorem errB1 : errB 1 = .iface 40 (.int .i64 1) := rfl
theorem both_alloc (h : SPair W w p mb vs ⟨(n : Int), fr, tk⟩ cb sm per l B rp fb rmb cp n g tk dc tm v (framesOfL l) tl) (hb : BitsOf n tk g) (ht : TieS tl l B per) {e : Ending} (hd : DocAlloc rp fb rmb cp n g tk fr dc tm per v (framesOfL l) tl w e w') :
    ∃ k z : Int, e = .returned (.tuple #[.int .i64 k, .int .i64 z]) ∧ SPool w' p mb vs ⟨(n : Int), fr, tk⟩ cb sm per l B ∧ Turn (fun _ => False) W w' ∧
      ∀ e' w2, ProgAlloc p mb vs ⟨(n : Int), fr, tk⟩ cb sm per l B w' e' w2 → e' = .returned (.tuple #[.int .i64 k, errB z]) ∧ SLaw W w2 p mb cb sm per rp fb rmb cp n dc tm := by
  have hn0 := nonneg_of h.sp
  have hpk := docPick_is ht hn0
  unfold DocAlloc at hd
  rw [hpk] at hd
  have hpos : ∀ b, mget l (pickOf l B per) = some b → 0 ≤ pickOf l B per := fun b hb => hn0 _ (mem_of_mget hb)
  rcases hd with ⟨h0, j, hj, hno, hyes, rfl, hc, t⟩ | ⟨hneg, hemp, rfl, t⟩ | ⟨hneg, k, base, v', hk7, hlow, hbm, hbl, rfl, hc, hr, t, hv⟩
  · have h1 := h.doc (h.ref.turned t (fun k hk e => h.apCR tm (.inr (.inl rfl)) (e ▸ hk))) hc (t.mono fun k _ e => .inl (.inr (.inl e))) (fun q hq => .inl hq)
    refine ⟨_, 0, rfl, h1.sp, h1.turn, ?_⟩
    rintro e' w2 (⟨b, k, hb', hk, hno', hyes', rfl, ha⟩ | ⟨hneg, _⟩ | ⟨hneg, _⟩)
    · have hf : ∀ i, i < per → ((mget tl (pickOf l B per * per + i)).isSome = true ↔ B b i = true) := fun i hi => by
        rw [ht, there_iff h0 hi]
        constructor
        · rintro ⟨b2, h2, h3⟩
          rw [hb'] at h2; cases h2; exact h3
        · exact fun h3 => ⟨b, hb', h3⟩
      have hjk : k = j := by
        rcases Nat.lt_trichotomy k j with h2 | h2 | h2
        · have := (hf k hk).1 (hyes k h2)
          rw [hno'] at this; cases this
        · exact h2
        · have := (hf j hj).2 (hyes' j h2)
          rw [hno] at this; cases this
      subst hjk
      refine ⟨rfl, ?_⟩
      obtain ⟨vs', h2⟩ := h1.prog ha
      exact ⟨vs', fr, tk, l, _, g, v, _, h2, hb, ht.made h.sp.slab.inj h.sp.p1 hb' h0 hj⟩
    · omega
    · omega
  · have h1 := h.turned t
    refine ⟨0, 12, rfl, h1.sp, h1.turn, ?_⟩
    rintro e' w2 (⟨b, k, hb', _⟩ | ⟨_, _, rfl, t2⟩ | ⟨_, k, base, fr', nb, hk7, _, hbm, _⟩)
    · have := hpos b hb'; omega
    · exact ⟨rfl, vs, fr, tk, l, B, g, v, tl, h1.turned t2, hb, ht⟩
    · have := hemp k hk7
      simp only at hbm
      rw [this] at hbm; cases hbm
  · have h1 := h.doc hr hc t hv
    refine ⟨_, 0, rfl, h1.sp, h1.turn, ?_⟩
    rintro e' w2 (⟨b, k, hb', _⟩ | ⟨_, hemp, _⟩ | ⟨_, k', base', fr', nb, hk7', hlow', hbm', hbl', hmt, hml, hb0, hnb, rfl, ha⟩)
    · have := hpos b hb'; omega
    · have := hemp k hk7
      simp only at this
      rw [this] at hbm; cases hbm
    · obtain ⟨rfl, rfl⟩ := least_same (o := 0) (Nat.zero_le _) hk7 (fun j _ hj => hlow j hj) hbm hbl (Nat.zero_le _) hk7' (fun j _ hj => hlow' j hj) hbm' hbl'
      refine ⟨rfl, ?_⟩
      obtain ⟨vs', h2⟩ := h1.prog ha
      have hnb2 : ∀ t ∈ l, t.2 ≠ nb := fun t ht e => by
        have := h1.sp.slab.foot_lt t.2 (.inr (.inr (List.mem_map.2 ⟨t, ht, rfl⟩)))
        omega
      rw [← frames_new l base' nb] at h2
      exact ⟨vs', fr', _, _, _, _, v', _, h2, hb.took (o := 0) hmt, ht.new h.sp.p1 hb0 hml hnb2⟩

/-- Give of both. -/
def ProgGive (p mb : Nat) (vs : Nat → Value) (q : Pl) (cb sm per : Nat) (l : List (Int × Nat)) (B : Nat → Nat → Bool) (x : Int) (w : World) (e : Ending) (w' : World) : Prop :=
  (¬ ThereB l B per x ∧ e = .returned (.iface 40 (.int .i64 7)) ∧ Turn (fun _ => False) w w') ∨ GaveS p mb vs q cb sm per l B x w e w'
def DocGive (dc tm rp per : Nat) (v : Value) (fs : List Int) (tl : List (Int × Unit)) (x : Int) (w : World) (e : Ending) (w' : World) : Prop :=
  (mget tl x = none ∧ e = .returned (.int .i64 7) ∧ w = w') ∨ (mget tl x = some () ∧ e = .returned (.int .i64 0) ∧ CacheAt w' dc tm rp per v fs (mdel tl x) ∧ Turn (fun k => k = tm) w w')
theorem both_give (h : SPair W w p mb vs ⟨(n : Int), fr, tk⟩ cb sm per l B rp fb rmb cp n g tk dc tm v (framesOfL l) tl) (hb : BitsOf n tk g) (ht : TieS tl l B per) {x : Int} {e : Ending} (hd : ProgGive p mb vs ⟨(n : Int), fr, tk⟩ cb sm per l B x w e w') :
    ∃ z : Int, e = .returned (errB z) ∧ CacheAt w' dc tm rp per v (framesOfL l) tl ∧ Turn (Feet p mb vs cb sm l) w w' ∧
      ∀ e' w2, DocGive dc tm rp per v (framesOfL l) tl x w' e' w2 → e' = .returned (.int .i64 z) ∧ SLaw W w2 p mb cb sm per rp fb rmb cp n dc tm ∧ Turn (fun k => k = tm) w' w2 := by
  rcases hd with ⟨hno, rfl, t⟩ | ⟨hx0, b, hb', hv, rfl, ha⟩
  · have h1 := h.turned t
    refine ⟨7, rfl, h1.ca, t.mono fun _ _ h => h.elim, ?_⟩
    rintro e' w2 (⟨_, rfl, rfl⟩ | ⟨hs, _⟩)
    · exact ⟨rfl, ⟨vs, fr, tk, l, B, g, v, tl, h1, hb, ht⟩, Turn.refl _ _⟩
    · exact absurd ((ht x).1 (by rw [hs]; rfl)) hno
  · obtain ⟨vs', h1⟩ := h.prog ha
    obtain ⟨_, _, t, _⟩ := ha
    refine ⟨0, rfl, h1.ca, t, ?_⟩
    rintro e' w2 (⟨hnone, _⟩ | ⟨hs, rfl, hc, t2⟩)
    · have := (ht x).2 ⟨hx0, b, hb', hv⟩
      rw [hnone] at this; cases this
    · obtain ⟨e1, e2⟩ := frame_of per h.sp.p1 x
      have hf0 : 0 ≤ x / (per : Int) := nonneg_of h.sp _ (mem_of_mget hb')
      have htw := ht.went h.sp.slab.inj h.sp.p1 hb' hf0 e2
      rw [← e1] at htw
      have h2 := h1.doc (h1.ref.turned t2 (fun k hk e => h.apCR tm (.inr (.inl rfl)) (e ▸ hk))) hc (t2.mono fun k _ e => .inl (.inr (.inl e))) (fun q hq => .inl hq)
      exact ⟨rfl, ⟨vs', fr, tk, l, _, g, v, _, h2, hb, htw⟩, t2⟩

/-- Reap of both. -/
theorem both_reap (h : SPair W w p mb vs ⟨(n : Int), fr, tk⟩ cb sm per l B rp fb rmb cp n g tk dc tm v (framesOfL l) tl) (ht : TieS tl l B per) {e : Ending} (hd : SlabReaped p mb vs ⟨(n : Int), fr, tk⟩ cb sm per l B w e w') :
    ∃ N : Nat, e = .returned (.int .i64 N) ∧ CacheAt w' dc tm rp per v (framesOfL l) tl ∧ RefAt w' rp fb rmb cp n g tk ∧
      ∀ e' w2, RefReaped rp fb rmb cp n tk dc tm per v (framesOfL l) tl w' e' w2 → e' = .returned (.int .i64 N) ∧ SLaw W w2 p mb cb sm per rp fb rmb cp n dc tm := by
  obtain ⟨fr', rfl, ha⟩ := hd
  obtain ⟨vs', h1⟩ := h.prog ha
  refine ⟨_, rfl, h1.ca, h1.ref, ?_⟩
  rintro e' w2 ⟨v', g', rfl, hc, hr, hb', t, hv⟩
  have hn0 := nonneg_of h.sp
  have h2 := h1.doc hr hc t (fun q hq => .inr (hv q hq))
  rw [left_frames ht h.sp.slab.mp.nodup hn0, gone_is ht hn0] at h2
  rw [gone_is ht hn0] at hb' ⊢
  exact ⟨rfl, vs', fr', _, _, B, g', v', tl, h2, hb', ht.reaped h.sp.p1⟩

/-- The pools' Alloc. -/
def DocPool (rp fb rmb cp n : Nat) (g : Bits) (tk : List Bk) (fr : Fr) (x : Int) (w : World) (e : Ending) (w' : World) : Prop :=
  ((x < 0 ∨ 6 < x) ∧ e = .returned (.tuple #[.int .i64 0, .int .i64 1]) ∧ w = w') ∨ ∃ o : Nat, x = o ∧ o ≤ 6 ∧
    (((∀ k, o ≤ k → k < 7 → fr k = []) ∧ e = .returned (.tuple #[.int .i64 0, .int .i64 12]) ∧ Turn (fun _ => False) w w') ∨
     ∃ (k : Nat) (base : Int), o ≤ k ∧ k < 7 ∧ (∀ j, o ≤ j → j < k → fr j = []) ∧ base ∈ fr k ∧ (∀ c ∈ fr k, base ≤ c) ∧ e = .returned (.tuple #[.int .i64 base, .int .i64 0]) ∧ RefAt w' rp fb rmb cp n (fill g base (base + sz o) false) (mput tk base o) ∧ Turn (fun j => j = fb ∨ j = rmb) w w')
theorem docPool_any (h : RefAt w rp fb rmb cp n g tk) (hg : Good n fr tk) (hb : BitsOf n tk g) (hn : n ≤ 256) (x : Int) : Calls Tryd.prog 26 #[.pointer (some ⟨rp, 0, none⟩), .int .i64 x] w (DocPool rp fb rmb cp n g tk fr x w) := by
  by_cases ho : x < 0 ∨ 6 < x
  · refine (refAlloc_arg rp x ho).mono ?_
    rintro e w' ⟨rfl, rfl⟩
    exact .inl ⟨ho, rfl, rfl⟩
  · obtain ⟨o, rfl⟩ : ∃ o : Nat, x = o := ⟨x.toNat, by omega⟩
    have ho6 : o ≤ 6 := by omega
    by_cases hno : ∀ k, o ≤ k → k < 7 → fr k = []
    · refine (refAlloc_any h hg hb hn o ho6 (-1) 0 (fun l hl => best_none (n := n) (tk := tk) hno l hl) (fun h => by omega)).mono ?_
      rintro e w6 (⟨_, rfl, t6⟩ | ⟨h0, _⟩)
      · exact .inr ⟨o, rfl, ho6, .inl ⟨hno, rfl, t6⟩⟩
      · exact absurd h0 (by decide)
    · obtain ⟨k, hok, hk7, hne, hlow⟩ := order_pick hno
      obtain ⟨base, hbm, hbl⟩ := least_pick hne
      obtain ⟨_, hb0, _, hbn⟩ := hg.okF k base hk7 hbm
      have hso : sz o ≤ sz k := by
        obtain ⟨d, rfl⟩ : ∃ d, k = o + d := ⟨k - o, by omega⟩
        have e := sz_mul o d
        rw [e]
        have h1 := sz_pos o
        have h2 := sz_pos d
        have h3 := Int.mul_le_mul_of_nonneg_right (show (1 : Int) ≤ sz d by omega) (show (0 : Int) ≤ sz o by omega)
        rw [Int.one_mul] at h3
        exact h3
      refine (refAlloc_any h hg hb hn o ho6 base k (fun l hl => best_some hg hok hk7 hlow hbm hbl l hl) (fun h => by omega)).mono ?_
      rintro e w6 (⟨h0, _⟩ | ⟨_, rfl, hr6, t6⟩)
      · exact absurd h0 (by simp only; omega)
      · exact .inr ⟨o, rfl, ho6, .inr ⟨k, base, hok, hk7, hlow, hbm, hbl, rfl, hr6, t6⟩⟩
def ProgPool (p mb : Nat) (vs : Nat → Value) (q : Pl) (x : Int) (w : World) (e : Ending) (w' : World) : Prop :=
  ((x < 0 ∨ 6 < x) ∧ e = .returned (.tuple #[.int .i64 0, .iface 40 (.int .i64 1)]) ∧ w = w') ∨ ∃ o : Nat, x = o ∧ o ≤ 6 ∧ (AllocFull q o w e w' ∨ AllocGot p mb vs q o w e w')
theorem progPool_any (h : SPool w p mb vs q cb sm per l B) (x : Int) : Calls Tryd.prog 18 #[.pointer (some ⟨p, 0, none⟩), .int .i64 x] w (ProgPool p mb vs q x w) := by
  by_cases ho : x < 0 ∨ 6 < x
  · refine (alloc_arg p x ho).mono ?_
    rintro e w' ⟨rfl, rfl⟩
    exact .inl ⟨ho, rfl, rfl⟩
  · obtain ⟨o, rfl⟩ : ∃ o : Nat, x = o := ⟨x.toNat, by omega⟩
    have ho6 : o ≤ 6 := by omega
    exact (alloc_any h.pool o ho6 h.good h.hn).mono fun e w' h => .inr ⟨o, rfl, ho6, h⟩
theorem both_pool (h : SPair W w p mb vs ⟨(n : Int), fr, tk⟩ cb sm per l B rp fb rmb cp n g tk dc tm v (framesOfL l) tl) (hb : BitsOf n tk g) (ht : TieS tl l B per) {x : Int} {e : Ending} (hd : DocPool rp fb rmb cp n g tk fr x w e w') :
    ∃ k z : Int, e = .returned (.tuple #[.int .i64 k, .int .i64 z]) ∧ SPool w' p mb vs ⟨(n : Int), fr, tk⟩ cb sm per l B ∧ Turn (fun j => j = fb ∨ j = rmb) w w' ∧
      ∀ e' w2, ProgPool p mb vs ⟨(n : Int), fr, tk⟩ x w' e' w2 → e' = .returned (.tuple #[.int .i64 k, errB z]) ∧ SLaw W w2 p mb cb sm per rp fb rmb cp n dc tm ∧ Turn (Feet p mb vs cb sm l) w' w2 := by
  rcases hd with ⟨ho, rfl, rfl⟩ | ⟨o, rfl, ho6, ⟨hemp, rfl, t⟩ | ⟨k, base, hok, hk7, hlow, hbm, hbl, rfl, hr, t⟩⟩
  · refine ⟨0, 1, rfl, h.sp, Turn.refl _ _, ?_⟩
    rintro e' w2 (⟨_, rfl, rfl⟩ | ⟨o, rfl, _⟩)
    · exact ⟨rfl, ⟨vs, fr, tk, l, B, g, v, tl, h, hb, ht⟩, Turn.refl _ _⟩
    · omega
  · have h1 := h.turned t
    refine ⟨0, 12, rfl, h1.sp, t.mono fun _ _ h => h.elim, ?_⟩
    rintro e' w2 (⟨ho, _⟩ | ⟨o', e1, _, ⟨rfl, rfl, _⟩ | ⟨k, base, fr', hok, hk7, _, hbm, _⟩⟩)
    · omega
    · exact ⟨rfl, ⟨vs, fr, tk, l, B, g, v, tl, h1, hb, ht⟩, Turn.refl _ _⟩
    · have := hemp k (by omega) hk7
      simp only at hbm
      rw [this] at hbm; cases hbm
  · have hc := h.ca.turned t (fun k hk e => h.apCR k hk (e.elim (fun e => .inr (.inl e)) fun e => .inr (.inr e)))
    have h1 := h.doc hr hc (t.mono fun k _ e => .inr (e.elim (fun e => .inr (.inl e)) fun e => .inr (.inr e))) (fun q hq => .inl hq)
    refine ⟨base, 0, rfl, h1.sp, t, ?_⟩
    rintro e' w2 (⟨ho, _⟩ | ⟨o', e1, _, ⟨rfl, _, hemp⟩ | ⟨k', base', fr', hok', hk7', hlow', hbm', hbl', rfl, hmn, hg', ha⟩⟩)
    · omega
    · have := hemp k (by omega) hk7
      simp only at this
      rw [this] at hbm; cases hbm
    · obtain rfl : o = o' := by omega
      obtain ⟨rfl, rfl⟩ := least_same hok hk7 hlow hbm hbl hok' hk7' hlow' hbm' hbl'
      refine ⟨rfl, ?_⟩
      have hsa := h1.sp.pooled ha hg' (fun t ht => by
        have h3 := h1.sp.held t ht
        rw [mget_mput, if_neg (fun e => by rw [e] at h3; rw [hmn] at h3; cases h3)]
        exact h3)
      obtain ⟨vs', h2⟩ := h1.prog hsa
      obtain ⟨_, _, t2, _⟩ := hsa
      exact ⟨⟨vs', fr', _, l, B, _, v, tl, h2, hb.took hmn, ht⟩, t2⟩
theorem SLaw.turned (h : SLaw W w p mb cb sm per rp fb rmb cp n dc tm) (t : Turn (fun _ => False) w w') : SLaw W w' p mb cb sm per rp fb rmb cp n dc tm := by
  obtain ⟨vs, fr, tk, l, B, g, v, tl, h1, h2, h3⟩ := h
  exact ⟨vs, fr, tk, l, B, g, v, tl, h1.turned t, h2, h3⟩
theorem SLaw.since (h : SLaw W w p mb cb sm per rp fb rmb cp n dc tm) : Turn (fun _ => False) W w := by
  obtain ⟨vs, fr, tk, l, B, g, v, tl, h1, h2, h3⟩ := h
  exact h1.turn
theorem docAlloc_any (h : SPair W w p mb vs ⟨(n : Int), fr, tk⟩ cb sm per l B rp fb rmb cp n g tk dc tm v (framesOfL l) tl) (hb : BitsOf n tk g) (ht : TieS tl l B per) :
    Calls Tryd.prog 56 #[.pointer (some ⟨dc, 0, none⟩)] w (DocAlloc rp fb rmb cp n g tk fr dc tm per v (framesOfL l) tl w) :=
  refSAlloc_any h.ca h.sp.p1 h.sp.p2 (frames_in h.sp) (by rw [framesOfL_length]; exact h.sp.len) h.ref h.sp.good hb (by have := h.sp.hn; simp only at this; omega) h.apCR (free_nothing h.sp ht)
theorem docReap_any (h : SPair W w p mb vs ⟨(n : Int), fr, tk⟩ cb sm per l B rp fb rmb cp n g tk dc tm v (framesOfL l) tl) (hb : BitsOf n tk g) (hc : CacheAt w' dc tm rp per v (framesOfL l) tl) (hr : RefAt w' rp fb rmb cp n g tk) :
    Calls Tryd.prog 61 #[.pointer (some ⟨dc, 0, none⟩)] w' (RefReaped rp fb rmb cp n tk dc tm per v (framesOfL l) tl w') :=
  refReap_any hc h.sp.p1 h.sp.p2 (by rw [framesOfL_length]; exact h.sp.len) (framesOfL_nodup h.sp.slab.mp.nodup) hr h.sp.good hb (by have := h.sp.hn; simp only at this; omega) h.apCR (frames_held h.sp)
end
theorem step_maplen {κ β : Type} [DecidableEq κ] {d : TypeDesc} {enc : κ → Value} {val : β → Value} {m : List (κ × β)} {P : Program} {ops : Array Oper} {o : Oper} {a : Act} {w : World} {K : Act → World → Prop} {Q : Exit → Act → World → Prop} {E : Prop}
    (hg : o.guard = none) (mo : Operand) (T kt et : TypeId) (hop : o.op = Op.call { callee := Callee.builtin Builtin.len, args := #[mo], argTypes := #[T] }) (hT : P.underlying T = some (.map kt et))
    (b : Nat) (hm : a.eval mo = .map (some b)) (h : MapIs w b d enc val m) (n : Nat) (hn : m.length = n) (hK : K (a.put o.dst (.int .i64 n)) w) :
    if Region.wanted o (yielded ops a.tmps) = true then Oper.wp P o a w K Q else E := by
  have hw : Region.wanted o (yielded ops a.tmps) = true := by simp [Region.wanted, hg]
  rw [if_pos hw]
  subst hn
  unfold Oper.wp
  simp [execOp, hop, resolve, invoke, builtin, hm, h.run_len hT o.type, Result.andThen]
  exact hK
end Go.Proofs.YtiohpmcedfbcgabDoor
/- A cache over a pool of its own: what each operation does to the things that are there, to the frames, and to what the pool has left. Conditions: each theorem's own premises. -/
namespace Go.Proofs.YtiohpmcedfbcgabDoor
open Go.RowKit
set_option linter.unusedVariables false

/-- A cache and its pool, new since W; all that is taken is the cache's. -/
structure SKeep (W w : World) (p mb : Nat) (vs : Nat → Value) (n : Nat) (fr : Fr) (tk : List Bk) (cb sm per : Nat) (l : List (Int × Nat)) (B : Nat → Nat → Bool) : Prop where
  sp : SPool w p mb vs ⟨(n : Int), fr, tk⟩ cb sm per l B
  turn : Turn (fun _ => False) W w
  new : ∀ k, Feet p mb vs cb sm l k → W.heap.size ≤ k
  keys : ∀ f, mget l f = none → mget tk f = none
section
variable {W w w' : World} {p mb cb sm per n : Nat} {vs vs' : Nat → Value} {l l' : List (Int × Nat)} {B B' : Nat → Nat → Bool} {tk tk' : List Bk} {fr fr' : Fr}
theorem SKeep.turned {S : Nat → Prop} (h : SKeep W w p mb vs n fr tk cb sm per l B) (t : Turn S w w') (hn : ∀ k, Feet p mb vs cb sm l k → ¬ S k) (hW : ∀ k, k < W.heap.size → ¬ S k) : SKeep W w' p mb vs n fr tk cb sm per l B :=
  { h with sp := h.sp.turned t hn, turn := h.turn.trans' t (fun k hk e => absurd e (hW k hk)) }
theorem SKeep.still (h : SKeep W w p mb vs n fr tk cb sm per l B) (t : Turn (fun _ => False) w w') : SKeep W w' p mb vs n fr tk cb sm per l B := h.turned t (fun _ _ => id) (fun _ _ => id)
theorem SKeep.after (h : SKeep W w p mb vs n fr tk cb sm per l B) (ha : SAfter p mb vs cb sm per l w w' ⟨(n : Int), fr', tk'⟩ l' B') (hk : ∀ f, mget l' f = none → mget tk' f = none) :
    ∃ vs', SKeep W w' p mb vs' n fr' tk' cb sm per l' B' ∧ Turn (Feet p mb vs cb sm l) w w' ∧ ∀ k, Feet p mb vs' cb sm l' k → Feet p mb vs cb sm l k ∨ w.heap.size ≤ k := by
  obtain ⟨vs', a, t, c⟩ := ha
  refine ⟨vs', ⟨a, h.turn.trans' t (fun k hk e => by have := h.new k e; omega), fun k hk => ?_, hk⟩, t, c⟩
  rcases c k hk with h1 | h1
  · exact h.new k h1
  · exact Nat.le_trans h.turn.size h1
theorem SKeep.keyed (h : SKeep W w p mb vs n fr tk cb sm per l B) (f : Int) : f ∈ tk.map (·.1) ↔ f ∈ l.map (·.1) := by
  constructor
  · intro hf
    obtain ⟨t, ht, rfl⟩ := List.mem_map.1 hf
    refine Classical.byContradiction fun hx => ?_
    have h1 : mget l t.1 = none := mget_none_iff.2 (fun s hs e => hx (List.mem_map.2 ⟨s, hs, e⟩))
    have h2 := h.keys t.1 h1
    exact mget_none_iff.1 h2 t ht rfl
  · intro hf
    obtain ⟨t, ht, rfl⟩ := List.mem_map.1 hf
    exact List.mem_map.2 ⟨(t.1, 0), mem_of_mget (h.sp.held t ht), rfl⟩
theorem sumSz_ones : ∀ {tk : List Bk}, (∀ t ∈ tk, t.2 = 0) → sumSz tk = tk.length
  | [], _ => rfl
  | t :: tk, h => by
    have h1 := sumSz_ones (tk := tk) (fun s hs => h s (List.mem_cons_of_mem _ hs))
    have h2 := h t (List.mem_cons_self ..)
    have e : sumSz (t :: tk) = sz t.2 + sumSz tk := by simp [sumSz]
    have h3 : sz 0 = 1 := rfl
    rw [e, h2, h3, h1, List.length_cons]
    omega
/-- What the pool has left. -/
theorem SKeep.left (h : SKeep W w p mb vs n fr tk cb sm per l B) : leftOf fr = (n : Int) - l.length := by
  have hnd : (tk.map Prod.fst).Nodup := h.sp.pool.mp.nodup
  have hone : ∀ t ∈ tk, t.2 = 0 := fun t ht => by
    obtain ⟨s, hs, e⟩ := List.mem_map.1 ((h.keyed t.1).1 (List.mem_map.2 ⟨t, ht, rfl⟩))
    have h1 := h.sp.held s hs
    have h2 : mget tk t.1 = some t.2 := mget_mem hnd ht
    rw [e] at h1
    simp only at h1
    rw [h2] at h1
    exact Option.some.inj h1
  have hp : (tk.map Prod.fst).Perm (l.map Prod.fst) := (List.perm_ext_iff_of_nodup hnd h.sp.slab.mp.nodup).2 (fun f => h.keyed f)
  have hl := hp.length_eq
  rw [List.length_map, List.length_map] at hl
  have h1 := h.sp.good.left (by simp only; omega)
  simp only at h1
  rw [h1, sumSz_ones hone, hl]
/-- How many things there are. -/
theorem SKeep.things (h : SKeep W w p mb vs n fr tk cb sm per l B) {ks : List Int} (hnd : ks.Nodup) (hk : ∀ x, x ∈ ks ↔ ThereB l B per x) : thingsOf l B per = ks.length := by
  rw [← places_length (B := B) (per := per) l]
  refine List.Perm.length_eq ((List.perm_ext_iff_of_nodup (nodup_places h.sp.slab.mp.nodup) hnd).2 fun x => ?_)
  rw [mem_places h.sp.slab.mp.nodup (nonneg_of h.sp) h.sp.p1, hk]
theorem leftOf_none {fr : Fr} (h : ∀ k, k < 7 → fr k = []) : leftOf fr = 0 := by
  unfold leftOf
  rw [h 0 (by omega), h 1 (by omega), h 2 (by omega), h 3 (by omega), h 4 (by omega), h 5 (by omega), h 6 (by omega)]
  rfl

/-- Alloc: there is no room, and the pool has nothing left. -/
def KeepFull (fr : Fr) (w : World) (e : Ending) (w' : World) : Prop := e = .returned (.tuple #[.int .i64 0, errB 12]) ∧ leftOf fr = 0 ∧ Turn (fun _ => False) w w'
/-- What a cache is behind an operation: p holds of each thing just if it is there now. -/
def KeepNext (W w : World) (p mb : Nat) (vs : Nat → Value) (n cb sm per : Nat) (l : List (Int × Nat)) (w' : World) (P : Int → Prop) : Prop :=
  ∃ vs' fr' tk' l' B', SKeep W w' p mb vs' n fr' tk' cb sm per l' B' ∧ (∀ x, ThereB l' B' per x ↔ P x) ∧ Turn (Feet p mb vs cb sm l) w w' ∧ ∀ k, Feet p mb vs' cb sm l' k → Feet p mb vs cb sm l k ∨ w.heap.size ≤ k
def KeepMade (W : World) (p mb : Nat) (vs : Nat → Value) (n cb sm per : Nat) (l : List (Int × Nat)) (B : Nat → Nat → Bool) (w : World) (e : Ending) (w' : World) : Prop :=
  ∃ k f : Int, e = .returned (.tuple #[.int .i64 k, .nilIface]) ∧ ¬ ThereB l B per k ∧ 0 ≤ k ∧ k < 4096 ∧ k.tdiv per = f ∧ f < n ∧ 0 ≤ f ∧ KeepNext W w p mb vs n cb sm per l w' fun x => ThereB l B per x ∨ x = k
theorem tdiv_frame {f : Int} {j : Nat} (hf : 0 ≤ f) (hj : j < per) : (f * per + j).tdiv per = f := by
  have h0 : 0 ≤ f * per := Int.mul_nonneg hf (by omega)
  rw [Int.tdiv_eq_ediv_of_nonneg (by omega)]
  exact (frame_div hj).1
theorem made_lt {f : Int} {j : Nat} (hp : per ≤ 16) (hf : 0 ≤ f) (hf2 : f < 256) (hj : j < per) : 0 ≤ f * per + j ∧ f * per + j < 4096 := by
  have h0 : 0 ≤ f * per := Int.mul_nonneg hf (by omega)
  have h1 : f * per ≤ 255 * 16 := Int.mul_le_mul (by omega) (by omega) (by omega) (by omega)
  exact ⟨by omega, by omega⟩
theorem keep_alloc (h : SKeep W w p mb vs n fr tk cb sm per l B) {e : Ending} (hp : ProgAlloc p mb vs ⟨(n : Int), fr, tk⟩ cb sm per l B w e w') :
    KeepFull fr w e w' ∨ KeepMade W p mb vs n cb sm per l B w e w' := by
  have hn2 := h.sp.hn
  simp only at hn2
  rcases hp with ⟨b, k, hb', hk, hno, hyes, rfl, ha⟩ | ⟨hneg, hemp, rfl, t⟩ | ⟨hneg, k, base, fr', nb, hk7, hlow, hbm, hbl, hmt, hml, hb0, hnb, rfl, ha⟩
  · have hfr := h.sp.frame _ (mem_of_mget hb')
    simp only at hfr
    obtain ⟨vs', h1, t, c⟩ := h.after ha h.keys
    obtain ⟨hk0, hk1⟩ := made_lt h.sp.p2 hfr.1 (by omega) hk
    refine .inr ⟨_, _, rfl, ?_, hk0, hk1, tdiv_frame hfr.1 hk, hfr.2, hfr.1, vs', fr, tk, l, _, h1, fun x => ?_, t, c⟩
    · rw [there_iff hfr.1 hk]
      rintro ⟨b2, h2, h3⟩
      rw [hb'] at h2; cases h2
      rw [hno] at h3; cases h3
    · rw [there_set h.sp.slab.inj h.sp.p1 hb' hfr.1 hk]
      by_cases hx : x = pickOf l B per * per + k
      · simp [hx]
      · simp [hx]
  · exact .inl ⟨rfl, leftOf_none hemp, t⟩
  · obtain ⟨_, _, _, hbn⟩ := h.sp.good.okF k base hk7 hbm
    have hsz := sz_pos k
    simp only at hbn
    have hnb2 : ∀ t ∈ l, t.2 ≠ nb := fun t ht e => by
      have := h.sp.slab.foot_lt t.2 (.inr (.inr (List.mem_map.2 ⟨t, ht, rfl⟩)))
      omega
    obtain ⟨vs', h1, t, c⟩ := h.after ha (fun f hf => by
      rw [← mput_newS hml, mget_mput] at hf
      rw [mget_mput]
      by_cases e : f = base
      · rw [if_pos e] at hf; cases hf
      · rw [if_neg e] at hf ⊢; exact h.keys f hf)
    have e0 : base * per + (0 : Nat) = base * per := by omega
    obtain ⟨hk0, hk1⟩ := made_lt (j := 0) h.sp.p2 hb0 (by omega) (by have := h.sp.p1; omega)
    have htd := tdiv_frame (per := per) (j := 0) hb0 (by have := h.sp.p1; omega)
    rw [e0] at hk0 hk1 htd
    refine .inr ⟨_, _, rfl, ?_, hk0, hk1, htd, by omega, hb0, vs', fr', _, _, _, h1, fun x => ?_, t, c⟩
    · rintro ⟨_, b, h2, _⟩
      have h3 : (base * (per : Int)) / per = base := Int.mul_ediv_cancel _ (by have := h.sp.p1; omega)
      rw [h3, hml] at h2; cases h2
    · rw [there_new h.sp.p1 hb0 hml hnb2]
      by_cases hx : x = base * per
      · simp [hx]
      · simp [hx]
/-- Give. -/
theorem keep_give (h : SKeep W w p mb vs n fr tk cb sm per l B) {x : Int} {e : Ending} (hp : ProgGive p mb vs ⟨(n : Int), fr, tk⟩ cb sm per l B x w e w') :
    (¬ ThereB l B per x ∧ e = .returned (errB 7) ∧ Turn (fun _ => False) w w') ∨ (ThereB l B per x ∧ e = .returned .nilIface ∧ KeepNext W w p mb vs n cb sm per l w' fun y => ThereB l B per y ∧ y ≠ x) := by
  rcases hp with ⟨hno, rfl, t⟩ | ⟨hx0, b, hb', hv, rfl, ha⟩
  · exact .inl ⟨hno, rfl, t⟩
  · obtain ⟨vs', h1, t, c⟩ := h.after ha h.keys
    obtain ⟨e1, e2⟩ := frame_of per h.sp.p1 x
    have hf0 : 0 ≤ x / (per : Int) := nonneg_of h.sp _ (mem_of_mget hb')
    refine .inr ⟨⟨hx0, b, hb', hv⟩, rfl, vs', fr, tk, l, _, h1, fun y => ?_, t, c⟩
    rw [there_set h.sp.slab.inj h.sp.p1 hb' hf0 e2, ← e1]
    by_cases hy : y = x
    · simp [hy]
    · simp [hy]
/-- Reap: each frame has a thing then. -/
def Full1 (l : List (Int × Nat)) (B : Nat → Nat → Bool) (per : Nat) : Prop := ∀ t ∈ l, hasB (B t.2) per true = true
def KeepReaped (W : World) (p mb : Nat) (vs : Nat → Value) (n cb sm per : Nat) (l : List (Int × Nat)) (B : Nat → Nat → Bool) (w : World) (e : Ending) (w' : World) : Prop :=
  ∃ (N : Nat) (vs' : Nat → Value) (fr' : Fr) (tk' : List Bk) (l' : List (Int × Nat)), e = .returned (.int .i64 N) ∧ (Full1 l B per → N = 0) ∧ SKeep W w' p mb vs' n fr' tk' cb sm per l' B ∧ Full1 l' B per ∧ (∀ x, ThereB l' B per x ↔ ThereB l B per x) ∧
    Turn (Feet p mb vs cb sm l) w w' ∧ ∀ k, Feet p mb vs' cb sm l' k → Feet p mb vs cb sm l k ∨ w.heap.size ≤ k
theorem keep_reap (h : SKeep W w p mb vs n fr tk cb sm per l B) {e : Ending} (hp : SlabReaped p mb vs ⟨(n : Int), fr, tk⟩ cb sm per l B w e w') : KeepReaped W p mb vs n cb sm per l B w e w' := by
  obtain ⟨fr', rfl, ha⟩ := hp
  have hnd := h.sp.slab.mp.nodup
  obtain ⟨vs', h1, t, c⟩ := h.after ha (fun f hf => by
    rw [mget_dels] at hf
    rw [mget_dels]
    split
    · rfl
    · rename_i hg
      rw [if_neg hg] at hf
      exact h.keys f hf)
  refine ⟨_, vs', fr', _, _, rfl, fun hfull => ?_, h1, fun s hs => ?_, fun x => (there_reaped h.sp.p1 x).symm, t, c⟩
  · rw [List.length_eq_zero_iff]
    unfold goneOf
    rw [List.filter_eq_nil_iff]
    intro f hf
    obtain ⟨s, hs, rfl⟩ := List.mem_map.1 (mem_framesOfL.1 hf)
    rw [rowOf_some (mget_mem hnd hs), hfull s hs]
    simp
  · have hm : mget (dels l (goneOf l B per (framesOfL l))) s.1 = some s.2 := mget_mem (dels_nodup hnd) hs
    rw [mget_dels] at hm
    by_cases hg : s.1 ∈ goneOf l B per (framesOfL l)
    · rw [if_pos hg] at hm; cases hm
    · rw [if_neg hg] at hm
      have hsl := mem_of_mget hm
      cases hv : hasB (B s.2) per true with
      | true => rfl
      | false =>
        exfalso
        refine hg (List.mem_filter.2 ⟨mem_framesOfL.2 (List.mem_map.2 ⟨_, hsl, rfl⟩), ?_⟩)
        rw [rowOf_some hm, hv]; rfl
theorem full_le : ∀ {l : List (Int × Nat)}, Full1 l B per → l.length ≤ thingsOf l B per
  | [], _ => Nat.zero_le _
  | t :: l, h => by
    have h1 := full_le (l := l) (fun s hs => h s (List.mem_cons_of_mem _ hs))
    have h2 := cntB_pos.2 (h t (List.mem_cons_self ..))
    simp only [thingsOf, List.map_cons, List.sum_cons, List.length_cons] at *
    omega
theorem full_none (h : SKeep W w p mb vs n fr tk cb sm per l B) (hf : Full1 l B per) (hno : ∀ x, ¬ ThereB l B per x) : l = [] := by
  cases l with
  | nil => rfl
  | cons t l =>
    exfalso
    obtain ⟨j, hj, hv⟩ := hasB_true.1 (hf t (List.mem_cons_self ..))
    exact hno (t.1 * per + j) ((there_iff (nonneg_of h.sp t (List.mem_cons_self ..)) hj).2 ⟨t.2, mget_mem h.sp.slab.mp.nodup (List.mem_cons_self ..), hv⟩)
end
end Go.Proofs.YtiohpmcedfbcgabDoor
