/- The document's processes: Pids; sort.Ints; sameInts at two alike. Conditions: each theorem's own premises. -/
import Derived.Test.YtiohpmcedfbcgabDoorRefSig
import Derived.Test.YtiohpmcedfbcgabDoorMapRange
import Derived.Test.YtiohpmcedfbcgabDoorProcPids
import Derived.Test.YtiohpmcedfbcgabDoorIntsGrow
import Derived.Deep.QuietTactic
import Derived.BigQuiet
namespace Go.Proofs.YtiohpmcedfbcgabDoor
open Go.RowKit Go.Maps Go.Sort Go.Shelf Go.WideElems
set_option linter.unusedVariables false

/-- A slice of ints that lies somewhere. -/
def RowIn (w : World) (a : Option Addr) (l : List Int) : Prop := l = [] ∨ ∃ g, a = some ⟨g, 0, none⟩ ∧ g < w.heap.size ∧ ∀ (j : Nat) x, l[j]? = some x → w.cell? ⟨g, j, none⟩ = some (.int .i64 x)
theorem RowIn.turned {w w' : World} {a : Option Addr} {l : List Int} (h : RowIn w a l) (t : Turn (fun _ => False) w w') : RowIn w' a l :=
  h.imp id (fun ⟨g, h1, h2, h3⟩ => ⟨g, h1, Nat.lt_of_lt_of_le h2 t.size, fun j x hj => (t.cell (a := ⟨g, j, none⟩) h2 id).trans (h3 j x hj)⟩)
theorem IntsAt.rowIn {w : World} {a : Option Addr} {n cap : Nat} {l : List Int} (h : IntsAt w (.slice a n cap) l) : RowIn w a l ∧ n = l.length := by
  rcases h.shape with ⟨h0, rfl⟩ | ⟨g, cap', h0, _, _, hg⟩
  · cases h0; exact ⟨.inl rfl, rfl⟩
  · cases h0
    exact ⟨.inr ⟨g, rfl, hg, fun j x hj => h.cell j x hj⟩, rfl⟩

set_option maxRecDepth 100000 in
theorem sameInts_same {w : World} (l : List Int) (a a2 : Option Addr) (cap cap2 : Nat) (hl : l.length ≤ 1000000) (h1 : RowIn w a l) (h2 : RowIn w a2 l) :
    Calls Tryd.prog 45 #[.slice a l.length cap, .slice a2 l.length cap2] w fun e w' => e = .returned (.bool true) ∧ Turn (fun _ => False) w w' := by
  have H1 := hid h1
  have H2 := hid h2
  have hne : ((l.length : Int) != l.length) = false := by simp
  clear h1 h2
  go_enter Tryd.func45, Tryd.ntmps45
  go_wp2_with fail
  go_loopw [5] (fun i wr => ∃ j : Nat, j ≤ l.length ∧ i = .int .i64 j ∧ Hid (Turn (fun _ => False) w wr)) (fun i _ => l.length - (intOf i).toNat)
  case atStart => exact ⟨0, Nat.zero_le _, rfl, hid (Turn.refl _ _)⟩
  case round =>
    obtain ⟨j, hj, rfl, hT⟩ := hrel
    by_cases hlt : j < l.length
    · have hlt' : (j : Int) < l.length := by omega
      obtain ⟨x, hx⟩ : ∃ x, l[j]? = some x := ⟨_, List.getElem?_eq_getElem hlt⟩
      obtain ⟨g, rfl, hg, hb⟩ := H1.out.resolve_left (by rintro rfl; simp at hlt)
      obtain ⟨g2, rfl, hg2, hb2⟩ := H2.out.resolve_left (by rintro rfl; simp at hlt)
      have c0 := (hT.out.cell (a := ⟨g, j, none⟩) hg id).trans (hb j x hx)
      have k0 := (hT.out.cell (a := ⟨g2, j, none⟩) hg2 id).trans (hb2 j x hx)
      clear hb hb2 hx
      go_wp2_with fail
      go_quiet (fail)
      go_wp2_with fail
      go_roundw
      case rel => exact ⟨j + 1, by omega, by go_num, hid (hT.out.drewN _)⟩
      case measure => simp [intOf]; omega
    · have hlt' : ¬ (j : Int) < l.length := by omega
      go_wp2_with fail
      go_ret
      exact ⟨rfl, hT.out⟩

def SortedRow (xs : List Int) (g : Nat) (w : World) (e : Ending) (w' : World) : Prop :=
  e = .returned (.tuple #[]) ∧ Turn (fun j => j = g) w w' ∧ ∀ (j : Nat) x, (xs.mergeSort fun x y => decide (x ≤ y))[j]? = some x → w'.cell? ⟨g, j, none⟩ = some (.int .i64 x)
theorem sortI_row {w : World} {g cap : Nat} {xs : List Int} (h : IntsAt w (.slice (some ⟨g, 0, none⟩) xs.length cap) xs) (hl : xs.length ≤ 1000000) :
    Calls Tryd.prog 157 #[.slice (some ⟨g, 0, none⟩) xs.length cap] w (SortedRow xs g w) := by
  have hg : g < w.heap.size := by
    rcases h.shape with ⟨h0, _⟩ | ⟨g', cap', h0, _, _, h1⟩
    · cases h0
    · cases h0; exact h1
  have hH : Holds (Value.int .i64) w g 0 xs.toArray := fun j hj => by
    have hj' : j < xs.length := by simpa using hj
    refine ⟨?_, by rw [Nat.zero_add]; exact h.frozen j⟩
    rw [Nat.zero_add, h.cell j xs[j] (List.getElem?_eq_getElem hj')]
    rw [getElem!_pos xs.toArray j hj]
    simp
  refine (AnyM.slices_Sort_int laysSortI g 0 cap xs w hH hg (by omega)).mono ?_
  rintro e w' ⟨rfl, n, os, rfl⟩
  have hs : (xs.mergeSort fun x y => decide (x ≤ y)).toArray.size = xs.toArray.size := by simp [List.length_mergeSort]
  have hg' : g < (putRow (Value.int .i64) (Sort.ahead w n) g 0 (xs.mergeSort fun x y => decide (x ≤ y)).toArray).heap.size := by simpa [putRow, mapBlock, Sort.ahead] using hg
  have hF : Holds (Value.int .i64) (grow (putRow (Value.int .i64) (Sort.ahead w n) g 0 (xs.mergeSort fun x y => decide (x ≤ y)).toArray) os) g 0 (xs.mergeSort fun x y => decide (x ≤ y)).toArray := holds_grow _ _ _ _ _ _ hg' (holds_putRow (Value.int .i64) _ g 0 _ _ (holds_ahead (Value.int .i64) w n g 0 _ hH) hs)
  refine ⟨rfl, ⟨rfl, rfl, rfl, by simp [grow, putRow, mapBlock, Sort.ahead], fun j hj hn => ?_⟩, fun j x hj => ?_⟩
  · simp only [grow, putRow, mapBlock, Sort.ahead]
    rw [Array.getElem?_append_left (by simpa using hj)]
    show (w.heap.modify g _)[j]? = w.heap[j]?
    rw [Array.getElem?_modify, if_neg (Ne.symm hn)]
  · have hjl := (List.getElem?_eq_some_iff.1 hj).1
    have h1 := (hF j (by simpa using hjl)).1
    rw [Nat.zero_add] at h1
    rw [h1, getElem!_pos _ j (by simpa using hjl)]
    have h2 := (List.getElem?_eq_some_iff.1 hj).2
    simp [h2]
theorem sortI_none (a : Option Addr) (cap : Nat) (w : World) : Calls Tryd.prog 157 #[.slice a 0 cap] w fun e w' => e = .returned (.tuple #[]) ∧ w' = w := AnyM.slices_Sort_int_none laysSortI a cap w
theorem sortInts {w : World} {g cap : Nat} {xs : List Int} (h : IntsAt w (.slice (some ⟨g, 0, none⟩) xs.length cap) xs) (hl : xs.length ≤ 1000000) :
    Calls Tryd.prog 113 #[.slice (some ⟨g, 0, none⟩) xs.length cap] w (SortedRow xs g w) := by
  have HS := hid (sortI_row h hl)
  clear h
  go_enter Tryd.func113, Tryd.ntmps113
  go_wp2_with fail
  refine HS.out.mono ?_
  rintro e w1 ⟨rfl, t, hc⟩
  have HT := hid t
  have HC := hid hc
  clear t hc
  go_wp2_with fail
  go_end0
  exact ⟨rfl, HT.out, HC.out⟩

def RefPidsRes (l : List (Int × Nat)) (w : World) (e : Ending) (w' : World) : Prop :=
  ∃ a cap, e = .returned (.slice a (pidsOf l).length cap) ∧ RowIn w' a (pidsOf l) ∧ Turn (fun _ => False) w w'
set_option maxHeartbeats 2000000 in
set_option maxRecDepth 100000 in
theorem refPids_is {w : World} {rb pm : Nat} {l : List (Int × Nat)} {G : Nat → DP} {M : Nat → List (Int × Int)} (h : DocIs w rb pm l G M) (hn : MNodup l) (hl : l.length ≤ 1000) (hne : l ≠ []) :
    Calls Tryd.prog 44 #[.pointer (some ⟨rb, 0, none⟩)] w (RefPidsRes l w) := by
  have hh := h.hdr
  have HMp := hid h.mp
  have HL := hid hl
  have HN := hid hn
  have HNe := hid hne
  have hdl : (dmap l G).length = l.length := by unfold dmap; simp
  clear h hl hn hne
  go_enter Tryd.func44, Tryd.ntmps44
  go_wp2_with (at_range; refine wpList_maprange rfl _ _ 3 76 rfl Tryd.underlying77 rfl HMp.out ?_; intro w2 hR2 t2 hs2; have HR2 := hid hR2; have HT2 := hid t2; clear hR2 t2 hs2)
  obtain ⟨r, hr⟩ : ∃ r, w.heap.size = r := ⟨_, rfl⟩
  rw [hr] at HR2
  rw [hr]
  have HWr := hid hr
  clear hr hh
  go_frame
  go_loopg [3] ((dmap l G).length) (fun gl v wr => ∃ (ks : List Int), Hid (RangeOf wr pm r encI encDP (dmap l G) (fun k => k ∈ ks) gl) ∧ Hid (IntsAt wr v ks) ∧ Hid (∀ g, v.ownBlock = some g → r < g) ∧ Hid (ks.Nodup ∧ ∀ k ∈ ks, k ∈ l.map (·.1)) ∧ Hid (ks.length + gl ≤ l.length) ∧ Hid (Turn (fun _ => False) w wr))
  case atStart =>
    refine ⟨[], ?_, hid (World.ownsRow_nil _ _ _ _), hid (fun g h => by cases h), hid ⟨List.nodup_nil, fun k h => by cases h⟩, hid (by simp [hdl]), HT2⟩
    have e : (fun k : Int => k ∈ ([] : List Int)) = fun _ => False := by funext k; simp
    rw [e]; exact HR2
  case round =>
    clear HR2 HT2
    obtain ⟨ks, hR, hI, hO, hK, hLen, hT⟩ := hrel
    go_wp2_with (at_next; refine wpList_mapnext rfl _ rfl rfl hR.out ?_ ?_)
    · intro hall
      have HAll := hid hall
      clear hall
      have hp : ks.Perm (l.map (·.1)) := by
        rw [List.perm_ext_iff_of_nodup hK.out.1 HN.out]
        intro k
        refine ⟨hK.out.2 k, fun hk => ?_⟩
        obtain ⟨t, ht, rfl⟩ := List.mem_map.1 hk
        exact HAll.out t.1 (G t.2) (List.mem_map.2 ⟨t, ht, rfl⟩)
      have hkl : ks.length ≤ 1000 := by rw [hp.length_eq, List.length_map]; exact HL.out
      have HP := hid hp
      clear hp
      rcases hI.out.shape with ⟨rfl, hnil⟩ | ⟨g, cap, rfl, _, _, hg⟩
      · exfalso
        have := HP.out.length_eq
        rw [hnil] at this
        simp at this
        exact HNe.out (List.eq_nil_of_length_eq_zero this.symm)
      · go_wp2_with fail
        refine (sortInts hI.out (by omega)).mono ?_
        rintro e w5 ⟨rfl, t5, hc5⟩
        have HT5 := hid t5
        have HC5 := hid hc5
        clear t5 hc5
        go_wp2_with fail
        go_ret
        have e1 : (ks.mergeSort fun x y => decide (x ≤ y)) = pidsOf l := sorted_of_perm HP.out
        have e2 : (pidsOf l).length = ks.length := by rw [← e1, List.length_mergeSort]
        have hrg := hO.out g rfl
        refine ⟨some ⟨g, 0, none⟩, cap, by rw [e2]; rfl, .inr ⟨g, rfl, Nat.lt_of_lt_of_le hg HT5.out.size, ?_⟩, hT.out.trans' HT5.out (fun k hk e => by have := HWr.out; omega)⟩
        rw [← e1]
        exact HC5.out
    · intro k q w5 cnt' hpm hns hR5 hlt5 t5 hsz5 hen
      (try simp only at hns hen)
      have HNs := hid hns
      have HR5 := hid hR5
      have HT5 := hid t5
      have hkl : k ∈ l.map (·.1) := by
        obtain ⟨t, ht, e⟩ := List.mem_map.1 hpm
        cases e
        exact List.mem_map.2 ⟨t, ht, rfl⟩
      have HK := hid hkl
      have hks : ks.length ≤ 1000000 := by have := HL.out; have := hLen.out; omega
      have hI5 := hI.out.turned t5 (fun g hg e => by have := hO.out g hg; omega)
      have HO1 : Hid (IntsAt (w5.alloc (.cells #[.int .i64 k] 3)) u3 ks) := hid (hI5.turned ((Turn.refl (fun _ => False) _).alloc _) (fun _ _ => id))
      have HC1 : Hid ((w5.alloc (.cells #[.int .i64 k] 3)).cell? ⟨w5.heap.size, 0, none⟩ = some (.int .i64 k)) := hid (by simp)
      unfold encI encDP at hen
      clear hns hR5 hpm hkl hI5 t5 hsz5
      go_wp2_with (at_builtin; refine wpList_append_int rfl _ _ rfl u3 ks rfl HO1.out w5.heap.size 1 k rfl HC1.out hks ?_; intro g3 z3 w3 hi3 t3 ho3; have HI3 := hid hi3; have HT3 := hid t3; have HO3 := hid ho3; clear hi3 t3 ho3)
      go_roundg cnt'
      case measure => omega
      case rel =>
        refine ⟨ks ++ [k], ?_, hid HI3.out, hid ?_, hid ⟨?_, ?_⟩, hid ?_, hid ?_⟩
        · have e : (fun k_1 : Int => k_1 ∈ ks ++ [k]) = fun k_1 => k_1 ∈ ks ∨ k_1 = k := by funext x; simp
          rw [e]
          have hpr : pm < r := by have := HMp.out.lt; have := HWr.out; omega
          exact (HR5.out.turned ((Turn.refl (fun _ => False) w5).alloc (.cells #[.int .i64 k] 3)) id id).turned HT3.out (fun e => by have := hO.out _ e; omega) (fun e => by have := hO.out _ e; omega)
        · intro g' hg'
          cases hg'
          have hrw := HR5.out.lt.2.1
          rcases HO3.out with h | h
          · exact hO.out _ h
          · rw [World.size_alloc] at h; simp only; omega
        · rw [List.nodup_append]
          refine ⟨hK.out.1, by simp, fun a ha b hb e => ?_⟩
          rw [List.mem_singleton.1 hb] at e
          exact HNs.out (by rw [← e]; exact ha)
        · intro k' hk'
          rcases List.mem_append.1 hk' with h | h
          · exact hK.out.2 k' h
          · rw [List.mem_singleton.1 h]; exact HK.out
        · rw [List.length_append, List.length_singleton]
          have := hLen.out
          omega
        · exact ((hT.out.trans' HT5.out (fun k hk e => by have := HWr.out; omega)).alloc _).trans' HT3.out (fun k hk e => by have := hO.out _ e; have := HWr.out; omega)
end Go.Proofs.YtiohpmcedfbcgabDoor
