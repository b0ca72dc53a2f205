/- The document's Cache: Reap. Conditions: each theorem's own premises. -/
import Derived.Test.YtiohpmcedfbcgabDoorRefSlabAlloc
import Derived.Test.YtiohpmcedfbcgabDoorSlabReap
import Derived.Test.YtiohpmcedfbcgabDoorPoolsAny
namespace Go.Proofs.YtiohpmcedfbcgabDoor
open Go.RowKit
set_option linter.unusedVariables false

/-- A block that is taken alone can be given back, whatever is free. -/
theorem Good.freed {n : Int} {tk : List (Int × Nat)} : ∀ (d k : Nat) (b : Int) (fr : Fr), k + d = 6 → Good n fr ((b, k) :: tk) → ∃ fr', Good n fr' tk
  | 0, k, b, fr, hk, h => ⟨_, h.putBud (.inl (by omega))⟩
  | d + 1, k, b, fr, hk, h => by
    by_cases hm : bud k b ∈ fr k
    · exact Good.freed d (k + 1) _ _ (by omega) (h.merge (by omega) hm)
    · exact ⟨_, h.putBud (.inr hm)⟩
theorem Good.gone {n : Int} {fr : Fr} {tk : List (Int × Nat)} (h : Good n fr tk) (hn : MNodup tk) {b : Int} {k : Nat} (hk : k ≤ 6) (hm : mget tk b = some k) : ∃ fr', Good n fr' (mdel tk b) :=
  Good.freed (6 - k) k b fr (by omega) (h.perm (mdel_put hn hm))

def goneD (h : Int → Nat) (fs : List Int) : List Int := fs.filter fun f => decide (h f = 0)
def leftD (h : Int → Nat) (fs : List Int) : List Int := fs.filter fun f => decide (0 < h f)
theorem goneD_stay {h : Int → Nat} {fs : List Int} {j : Nat} {s : Int} (hs : fs[j]? = some s) (hp : 0 < h s) : goneD h (fs.take (j + 1)) = goneD h (fs.take j) := by
  unfold goneD
  rw [List.take_add_one, hs, List.filter_append]
  have : ¬ h s = 0 := by omega
  simp [this]
theorem goneD_go {h : Int → Nat} {fs : List Int} {j : Nat} {s : Int} (hs : fs[j]? = some s) (hp : h s = 0) : goneD h (fs.take (j + 1)) = goneD h (fs.take j) ++ [s] := by
  unfold goneD
  rw [List.take_add_one, hs, List.filter_append]
  simp [hp]
theorem leftD_stay {h : Int → Nat} {fs : List Int} {j : Nat} {s : Int} (hs : fs[j]? = some s) (hp : 0 < h s) : leftD h (fs.take (j + 1)) = leftD h (fs.take j) ++ [s] := by
  unfold leftD
  rw [List.take_add_one, hs, List.filter_append]
  simp [hp]
theorem leftD_go {h : Int → Nat} {fs : List Int} {j : Nat} {s : Int} (hs : fs[j]? = some s) (hp : h s = 0) : leftD h (fs.take (j + 1)) = leftD h (fs.take j) := by
  unfold leftD
  rw [List.take_add_one, hs, List.filter_append]
  simp [hp]
theorem goneD_not {h : Int → Nat} {fs : List Int} (hn : fs.Nodup) {j : Nat} {s : Int} (hs : fs[j]? = some s) : s ∉ goneD h (fs.take j) := fun hm => by
  have h1 := (List.mem_filter.1 hm).1
  obtain ⟨i, hi⟩ := List.getElem?_of_mem h1
  have hij : i < j := by
    have := (List.getElem?_eq_some_iff.1 hi).1
    simp at this; omega
  rw [List.getElem?_take_of_lt hij] at hi
  obtain ⟨a1, a2⟩ := List.getElem?_eq_some_iff.1 hi
  obtain ⟨b1, b2⟩ := List.getElem?_eq_some_iff.1 hs
  have := (List.getElem_inj hn).1 (a2.trans b2.symm)
  omega
theorem goneD_left (h : Int → Nat) : ∀ fs : List Int, (goneD h fs).length + (leftD h fs).length = fs.length
  | [] => rfl
  | s :: fs => by
    have ih := goneD_left h fs
    unfold goneD leftD at *
    by_cases hs : h s = 0
    · rw [List.filter_cons_of_pos (by simpa using hs), List.filter_cons_of_neg (by simp [hs])]
      simp only [List.length_cons]; omega
    · rw [List.filter_cons_of_neg (by simpa using hs), List.filter_cons_of_pos (by simp; omega)]
      simp only [List.length_cons]; omega
theorem dels_snoc {β : Type} (l : List (Int × β)) (fs : List Int) (s : Int) : dels l (fs ++ [s]) = mdel (dels l fs) s := by
  unfold dels
  rw [List.foldl_append]; rfl
section
variable {w w' w3 : World} {dc tm rp per fb rmb cp n : Nat} {g : Bits} {tk : List Bk} {v v' : Value} {fs xs : List Int} {tl : List (Int × Unit)}
theorem CacheAt.stored (h : CacheAt w dc tm rp per v fs tl) (hi : IntsAt w v' xs) (hnv : ∀ q, v'.ownBlock = some q → q ≠ dc ∧ q ≠ tm) :
    CacheAt (w.setCell ⟨dc, 3, none⟩ v') dc tm rp per v' xs tl := by
  have s : Turn (fun j => j = dc) w (w.setCell ⟨dc, 3, none⟩ v') := (Turn.refl _ _).setCell _ _ (fun _ => rfl)
  refine ⟨?_, ?_, ?_, World.cell?_setCell_same _ _ _ h.c3, fun i => ?_, hi.turned s (fun q hq e => (hnv q hq).1 e), h.mp.turned s (fun e => h.ne e.symm), h.ne, hnv⟩
  · rw [World.cell?_setCell_other _ _ _ _ (by simp)]; exact h.c0
  · rw [World.cell?_setCell_other _ _ _ _ (by simp)]; exact h.c1
  · rw [World.cell?_setCell_other _ _ _ _ (by simp)]; exact h.c2
  · simpa using h.fz i

/-- What Reap leaves. -/
def RefReaped (rp fb rmb cp n : Nat) (tk : List Bk) (dc tm per : Nat) (v : Value) (fs : List Int) (tl : List (Int × Unit)) (w : World) (e : Ending) (w' : World) : Prop :=
  ∃ (v' : Value) (g' : Bits), e = .returned (.int .i64 (goneD (fun f => hasC tl per f per) fs).length) ∧ CacheAt w' dc tm rp per v' (leftD (fun f => hasC tl per f per) fs) tl ∧
    RefAt w' rp fb rmb cp n g' (dels tk (goneD (fun f => hasC tl per f per) fs)) ∧ BitsOf n (dels tk (goneD (fun f => hasC tl per f per) fs)) g' ∧ Turn (fun k => CFoot dc tm v k ∨ RefFoot rp fb rmb k) w w' ∧ ∀ q, v'.ownBlock = some q → w.heap.size ≤ q
set_option maxHeartbeats 4000000 in
set_option maxRecDepth 100000 in
theorem refReap_any {fr : Fr} (h : CacheAt w dc tm rp per v fs tl) (h1 : 1 ≤ per) (h2 : per ≤ 16) (hl : fs.length ≤ 256) (hnd : fs.Nodup)
    (hr : RefAt w rp fb rmb cp n g tk) (hgo : Good n fr tk) (hbo : BitsOf n tk g) (hn : n ≤ 256) (hap : ∀ k, CFoot dc tm v k → ¬ RefFoot rp fb rmb k) (hh : ∀ f ∈ fs, mget tk f = some 0) :
    Calls Tryd.prog 61 #[.pointer (some ⟨dc, 0, none⟩)] w (RefReaped rp fb rmb cp n tk dc tm per v fs tl w) := by
  have H := hid h
  have HR := hid hr
  have HGo := hid hgo
  have HBo := hid hbo
  have HAp := hid hap
  have HH := hid hh
  have HNd := hid hnd
  have c3 := h.c3
  obtain ⟨a, cap, rfl⟩ : ∃ a cap, v = .slice a fs.length cap := h.fr.slice
  have HTf : Hid (∀ k, CFoot dc tm (.slice a fs.length cap) k → ¬ (k = fb ∨ k = rmb)) := hid (fun k hk e => HAp.out k hk (e.elim (fun e => .inr (.inl e)) fun e => .inr (.inr e)))
  have HF : Hid (∀ f ∈ fs, 0 ≤ f ∧ f < n) := hid (fun f hf => by
    have h1 := HGo.out.okT (f, 0) (mem_of_mget (HH.out f hf))
    have h2 := h1.2.2.2
    have h3 : sz 0 = 1 := rfl
    simp only at h2
    rw [h3] at h2
    exact ⟨h1.2.1, by omega⟩)
  clear h hr hgo hbo hap hh hnd
  go_enter Tryd.func61, Tryd.ntmps61
  go_wp2_with fail
  go_loopg [3, 12] (fs.length) (fun gl u3 i wr => ∃ (j : Nat) (g' : Bits) (fr' : Fr), j + gl = fs.length ∧ i = .int .i64 j ∧ Hid (IntsAt wr u3 (leftD (fun f => hasC tl per f per) (fs.take j))) ∧ Hid (∀ q, u3.ownBlock = some q → w.heap.size ≤ q) ∧ Hid (RefAt wr rp fb rmb cp n g' (dels tk (goneD (fun f => hasC tl per f per) (fs.take j)))) ∧ Hid (Good n fr' (dels tk (goneD (fun f => hasC tl per f per) (fs.take j)))) ∧ Hid (BitsOf n (dels tk (goneD (fun f => hasC tl per f per) (fs.take j))) g') ∧ Hid (Turn (fun k => k = fb ∨ k = rmb) w wr))
  case atStart => exact ⟨0, g, fr, by omega, rfl, hid ⟨by simp, .inl ⟨rfl, by rfl⟩⟩, hid (fun q hq => by cases hq), HR, HGo, HBo, hid (Turn.refl _ _)⟩
  case round =>
    obtain ⟨j, g', fr', hj, rfl, hI, hO, hR, hG, hB, hT⟩ := hrel
    by_cases hjl : j < fs.length
    · have hjl' : (j : Int) < fs.length := by omega
      have HC := hid (H.out.turned hT.out HTf.out)
      obtain ⟨s, hs⟩ : ∃ s, fs[j]? = some s := ⟨_, List.getElem?_eq_getElem hjl⟩
      obtain ⟨ga, hga, hcell⟩ : ∃ ga, a = some ⟨ga, 0, none⟩ ∧ wr.cell? ⟨ga, j, none⟩ = some (.int .i64 s) := by
        rcases HC.out.fr.shape with ⟨_, h2⟩ | ⟨ga, cap, h1, _⟩
        · rw [h2] at hjl; simp at hjl
        · cases h1
          exact ⟨ga, rfl, HC.out.fr.cell j s hs⟩
      subst hga
      obtain ⟨hs0, hs1⟩ := HF.out s (List.mem_of_getElem? hs)
      have HHas := hid (refHas_is HC.out h1 h2 s hs0 (by omega))
      have hhs := HH.out s (List.mem_of_getElem? hs)
      have HS := hid hs
      obtain ⟨N, hN⟩ : ∃ N, hasC tl per s per = N := ⟨_, rfl⟩
      rw [hN] at HHas
      have hNle : N ≤ 16 := by rw [← hN]; exact Nat.le_trans (cntB_le _ _) h2
      have HN := hid hN
      clear hN HC hs
      go_wp2_with fail
      refine HHas.out.mono ?_
      rintro e w2 ⟨rfl, t2⟩
      have hT2 := hT.out.trans (t2.mono fun _ _ h => h.elim)
      have HT2 := hid hT2
      have hI2 := hI.out.turned t2 (fun _ _ => id)
      have HI2 := hid hI2
      have HR2 := hid (hR.out.turned t2 (fun _ _ => id))
      have c0 := (H.out.turned hT2 HTf.out).c0
      have hsz := hT2.size
      clear hT t2 hT2 HHas hcell hR hI
      by_cases hc : 0 < N
      · have hc' : (0 : Int) < N := by omega
        have HO1 : Hid (IntsAt (w2.alloc (.cells #[.int .i64 s] 3)) u3 (leftD (fun f => hasC tl per f per) (fs.take j))) := hid (hI2.turned ((Turn.refl (fun _ => False) _).alloc _) (fun _ _ => id))
        have HC1 : Hid ((w2.alloc (.cells #[.int .i64 s] 3)).cell? ⟨w2.heap.size, 0, none⟩ = some (.int .i64 s)) := hid (by simp)
        have hll : (leftD (fun f => hasC tl per f per) (fs.take j)).length ≤ 1000000 := by
          unfold leftD
          refine Nat.le_trans (List.length_filter_le _ _) ?_
          rw [List.length_take]
          omega
        clear hI2
        go_wp2_with (at_builtin; refine wpList_append_int rfl _ _ rfl u3 _ rfl HO1.out w2.heap.size 1 s rfl HC1.out hll ?_; intro g3 z3 w3 hi3 t3 ho3; have HI3 := hid hi3; have HT3 := hid t3; have HO3 := hid ho3; clear hi3 t3 ho3)
        go_roundg (gk - 1)
        case measure => omega
        case rel =>
          have hro : ∀ {k}, RefFoot rp fb rmb k → ¬ u3.ownBlock = some k := fun {k} hk e => by
            have h1 := hO.out k e
            have h2 := HR.out.foot_lt k hk
            omega
          refine ⟨j + 1, g', fr', by omega, by go_num, ?_, hid ?_, ?_, ?_, ?_, hid ?_⟩
          · rw [leftD_stay HS.out (by simp only [HN.out]; exact hc)]
            exact HI3
          · intro q hq
            cases hq
            rcases HO3.out with h | h
            · exact hO.out _ h
            · rw [World.size_alloc] at h; show w.heap.size ≤ g3; omega
          · rw [goneD_stay HS.out (by simp only [HN.out]; exact hc)]
            exact hid ((HR2.out.turned ((Turn.refl (fun _ => False) _).alloc _) (fun _ _ => id)).turned HT3.out (fun k hk e => hro hk e))
          · rw [goneD_stay HS.out (by simp only [HN.out]; exact hc)]; exact hG
          · rw [goneD_stay HS.out (by simp only [HN.out]; exact hc)]; exact hB
          · exact (HT2.out.alloc _).trans' HT3.out (fun k hk e => by have := hO.out _ e; omega)
      · have hc' : ¬ (0 : Int) < N := by omega
        obtain rfl : N = 0 := by omega
        have hmd : mget (dels tk (goneD (fun f => hasC tl per f per) (fs.take j))) s = some 0 := by
          rw [mget_dels, if_neg (goneD_not HNd.out HS.out)]; exact hhs
        have HGv := hid (refGive_any HR2.out hG.out hn s 0)
        have hgr : giveR (dels tk (goneD (fun f => hasC tl per f per) (fs.take j))) s 0 = 0 := by unfold giveR; rw [hmd]; rfl
        have hgt : giveT (dels tk (goneD (fun f => hasC tl per f per) (fs.take j))) s 0 = mdel (dels tk (goneD (fun f => hasC tl per f per) (fs.take j))) s := by unfold giveT; rw [hmd]; rfl
        have HBg := hid (giveB_bits hB.out hG.out HR2.out.mp.nodup s 0)
        rw [hgr, hgt] at HGv
        rw [hgt] at HBg
        obtain ⟨fr2, hg2⟩ := hG.out.gone HR2.out.mp.nodup (by omega) hmd
        have HG2 := hid hg2
        clear hg2 hgr hgt hmd hI2
        go_wp2_with fail
        refine HGv.out.mono ?_
        rintro e w4 ⟨rfl, hr4, t4⟩
        have HR4 := hid hr4
        have HT4 := hid t4
        clear hr4 t4 HGv
        go_wp2_with fail
        go_roundg (gk - 1)
        case measure => omega
        case rel =>
          refine ⟨j + 1, giveB g' (dels tk (goneD (fun f => hasC tl per f per) (fs.take j))) s 0, fr2, by omega, by go_num, ?_, hO, ?_, ?_, ?_, hid (HT2.out.trans HT4.out)⟩
          · rw [leftD_go HS.out (by simp only [HN.out])]
            exact hid (HI2.out.turned HT4.out (fun q hq e => by
              have h1 := hO.out q hq
              have h2 := HR.out.foot_lt q (e.elim (fun e => .inr (.inl e)) fun e => .inr (.inr e))
              omega))
          · rw [goneD_go HS.out (by simp only [HN.out]), dels_snoc]; exact HR4
          · rw [goneD_go HS.out (by simp only [HN.out]), dels_snoc]; exact HG2
          · rw [goneD_go HS.out (by simp only [HN.out]), dels_snoc]; exact HBg
    · have hjl' : ¬ (j : Int) < fs.length := by omega
      obtain rfl : j = fs.length := by omega
      rw [List.take_length] at hI hR hG hB
      have HC := hid (H.out.turned hT.out HTf.out)
      have c3 := HC.out.c3
      have fz3 := HC.out.fz 3
      obtain ⟨a3, cp3, rfl⟩ := hI.out.slice
      have hgl := goneD_left (fun f => hasC tl per f per) fs
      obtain ⟨LL, hLL⟩ : ∃ LL, leftD (fun f => hasC tl per f per) fs = LL := ⟨_, rfl⟩
      obtain ⟨GG, hGG⟩ : ∃ GG, goneD (fun f => hasC tl per f per) fs = GG := ⟨_, rfl⟩
      rw [hLL, hGG] at hgl
      rw [hLL] at hI hO
      rw [hGG] at hR hG hB
      have hsub : ((fs.length : Nat) : Int) - LL.length = GG.length := by omega
      have hw3 : IntKind.i64.wrap ((fs.length : Nat) - (LL.length : Int)) = GG.length := by rw [hsub]; exact IntWalk.i64_in _ (by omega)
      have HLL := hid hLL
      have HGG := hid hGG
      clear hLL hGG hsub
      rw [HLL.out]
      go_wp2_with fail
      go_ret
      have hO' := hO.out
      refine ⟨_, g', by rw [HGG.out]; rfl, ?_, ?_, by rw [HGG.out]; exact hB.out, ?_, hO'⟩
      · rw [HLL.out]
        exact HC.out.stored hI.out (fun q hq => by
          have h1 := hO' q hq
          have h2 := H.out.foot_lt dc (.inl rfl)
          have h3 := H.out.foot_lt tm (.inr (.inl rfl))
          exact ⟨by omega, by omega⟩)
      · rw [HGG.out]
        exact hR.out.turned ((Turn.refl (fun k => k = dc) _).setCell _ _ (fun _ => rfl)) (fun k hk e => HAp.out dc (.inl rfl) (e ▸ hk))
      · exact (hT.out.mono fun k _ e => .inr (e.elim (fun e => .inr (.inl e)) fun e => .inr (.inr e))).setCell _ _ (fun _ => .inl (.inl rfl))
end
end Go.Proofs.YtiohpmcedfbcgabDoor
