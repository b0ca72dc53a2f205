/- The contracts of package frames: a memory lies in two blocks and reads as a function of frame and word; each method does to that function what its name says. Conditions: each theorem's own premises. -/
import Derived.Test.YtiohpmcedfbcgabGreatDoorProg
import Derived.Test.YtiohpmcedfbcgabGreatDoorBase
import Derived.BigRegion
namespace Go.Proofs.YtiohpmcedfbcgabGreatDoor
open Go.RowKit

/-- A memory of n frames of 8 words: its header in block mb, the words in block wb. -/
structure MemIs (w : World) (mb wb n : Nat) (m : Nat → Nat → Int) : Prop where
  hdr : w.cell? ⟨mb, 0, none⟩ = some (.slice (some ⟨wb, 0, none⟩) n n)
  cell : ∀ f k, f < n → k < 8 → w.cell? ⟨wb, f * 8 + k, none⟩ = some (.int .i64 (m f k))
  free : ∀ i, w.frozen? ⟨wb, i, none⟩ = false
  ne : mb ≠ wb
  pos : 1 ≤ n
  most : n ≤ 256

theorem MemIs.lt_mb {w : World} {mb wb n : Nat} {m : Nat → Nat → Int} (h : MemIs w mb wb n m) : mb < w.heap.size := lt_of_cell h.hdr
theorem MemIs.lt_wb {w : World} {mb wb n : Nat} {m : Nat → Nat → Int} (h : MemIs w mb wb n m) : wb < w.heap.size := lt_of_cell (h.cell 0 0 h.pos (by decide))

theorem MemIs.turned {w w' : World} {mb wb n : Nat} {m : Nat → Nat → Int} {S : Nat → Prop} (h : MemIs w mb wb n m) (t : Turn S w w') (h1 : ¬ S mb) (h2 : ¬ S wb) : MemIs w' mb wb n m :=
  ⟨(t.cell (a := ⟨mb, 0, none⟩) h.lt_mb h1).trans h.hdr, fun f k hf hk => (t.cell (a := ⟨wb, f * 8 + k, none⟩) h.lt_wb h2).trans (h.cell f k hf hk),
   fun i => (t.frozen (a := ⟨wb, i, none⟩) h.lt_wb h2).trans (h.free i), h.ne, h.pos, h.most⟩

def memSet (m : Nat → Nat → Int) (f k : Nat) (v : Int) : Nat → Nat → Int := fun g j => if g = f ∧ j = k then v else m g j
def memZero (m : Nat → Nat → Int) (f : Nat) : Nat → Nat → Int := fun g j => if g = f then 0 else m g j
def memCopy (m : Nat → Nat → Int) (to src : Nat) : Nat → Nat → Int := fun g j => if g = to then m src j else m g j

set_option maxHeartbeats 400000 in
theorem right_yes (mb wb n : Nat) (f k : Int) (w : World) (hm : w.cell? ⟨mb, 0, none⟩ = some (.slice (some ⟨wb, 0, none⟩) n n)) (hf0 : 0 ≤ f) (hf : f < n) (hk0 : 0 ≤ k) (hk : k < 8) :
    Calls Tryz.prog 135 #[.pointer (some ⟨mb, 0, none⟩), .int .i64 f, .int .i64 k] w fun e w' => e = .returned (.bool true) ∧ w = w' := by
  go_enter Tryz.func135, Tryz.ntmps135
  go_wp2
  go_ret
  exact ⟨rfl, rfl⟩

set_option maxHeartbeats 400000 in
theorem right_no (mb wb n : Nat) (f k : Int) (w : World) (hm : w.cell? ⟨mb, 0, none⟩ = some (.slice (some ⟨wb, 0, none⟩) n n)) (h : ¬ (0 ≤ f ∧ f < n ∧ 0 ≤ k ∧ k < 8)) :
    Calls Tryz.prog 135 #[.pointer (some ⟨mb, 0, none⟩), .int .i64 f, .int .i64 k] w fun e w' => e = .returned (.bool false) ∧ w = w' := by
  by_cases h1 : 0 ≤ f
  · by_cases h2 : f < n
    · by_cases h3 : 0 ≤ k
      · have h4 : 8 ≤ k := by omega
        clear h
        go_enter Tryz.func135, Tryz.ntmps135
        go_wp2
        go_ret
        exact ⟨by simp; omega, rfl⟩
      · have h4 : k < 0 := by omega
        clear h
        go_enter Tryz.func135, Tryz.ntmps135
        go_wp2
        go_ret
        exact ⟨rfl, rfl⟩
    · have h4 : n ≤ f := by omega
      clear h
      go_enter Tryz.func135, Tryz.ntmps135
      go_wp2
      go_ret
      exact ⟨rfl, rfl⟩
  · have h4 : f < 0 := by omega
    clear h
    go_enter Tryz.func135, Tryz.ntmps135
    go_wp2
    go_ret
    exact ⟨rfl, rfl⟩

set_option maxHeartbeats 400000 in
theorem get_yes {mb wb n : Nat} {m : Nat → Nat → Int} {w : World} (hm : MemIs w mb wb n m) (f k : Int) (hf0 : 0 ≤ f) (hf : f < n) (hk0 : 0 ≤ k) (hk : k < 8) :
    Calls Tryz.prog 65 #[.pointer (some ⟨mb, 0, none⟩), .int .i64 f, .int .i64 k] w fun e w' => e = .returned (.tuple #[.int .i64 (m f.toNat k.toNat), .nilIface]) ∧ w = w' := by
  have hh := hm.hdr
  have hc := hm.cell f.toNat k.toNat (by omega) (by omega)
  clear hm
  go_enter Tryz.func65, Tryz.ntmps65
  go_wp2_with (go_at_call 135; refine (right_yes mb wb n _ _ _ hh hf0 hf hk0 hk).mono ?_; rintro e w' ⟨rfl, rfl⟩)
  go_ret2
  exact ⟨rfl, rfl⟩

set_option maxHeartbeats 400000 in
theorem get_no {mb wb n : Nat} {m : Nat → Nat → Int} {w : World} (hm : MemIs w mb wb n m) (f k : Int) (h : ¬ (0 ≤ f ∧ f < n ∧ 0 ≤ k ∧ k < 8)) :
    Calls Tryz.prog 65 #[.pointer (some ⟨mb, 0, none⟩), .int .i64 f, .int .i64 k] w fun e w' => e = .returned (.tuple #[.int .i64 0, .iface 28 (.int .i64 2)]) ∧ w = w' := by
  have hh := hm.hdr
  clear hm
  have H := hid h
  clear h
  go_enter Tryz.func65, Tryz.ntmps65
  go_wp2_with (go_at_call 135; refine (right_no mb wb n _ _ _ hh H.out).mono ?_; rintro e w' ⟨rfl, rfl⟩)
  go_ret2
  exact ⟨rfl, rfl⟩

theorem MemIs.set {w : World} {mb wb n : Nat} {m : Nat → Nat → Int} (h : MemIs w mb wb n m) (f k : Nat) (v : Int) (hf : f < n) (hk : k < 8) :
    MemIs (w.setCell ⟨wb, f * 8 + k, none⟩ (.int .i64 v)) mb wb n (memSet m f k v) := by
  refine ⟨?_, ?_, ?_, h.ne, h.pos, h.most⟩
  · rw [World.cell?_setCell_other _ _ _ _ (by intro e; injection e with e; exact h.ne e.symm)]; exact h.hdr
  · intro g j hg hj
    unfold memSet
    by_cases e : g = f ∧ j = k
    · obtain ⟨rfl, rfl⟩ := e
      rw [if_pos ⟨rfl, rfl⟩]
      exact World.cell?_setCell_same _ _ _ (h.cell g j hf hk)
    · rw [if_neg e, World.cell?_setCell_other _ _ _ _ (by intro e2; injection e2 with e3 e4; omega)]
      exact h.cell g j hg hj
  · intro i; rw [World.frozen?_setCell]; exact h.free i

set_option maxHeartbeats 400000 in
theorem set_yes {mb wb n : Nat} {m : Nat → Nat → Int} {w : World} (hm : MemIs w mb wb n m) (f k v : Int) (hf0 : 0 ≤ f) (hf : f < n) (hk0 : 0 ≤ k) (hk : k < 8) :
    Calls Tryz.prog 70 #[.pointer (some ⟨mb, 0, none⟩), .int .i64 f, .int .i64 k, .int .i64 v] w fun e w' => e = .returned .nilIface ∧ MemIs w' mb wb n (memSet m f.toNat k.toNat v) ∧ Turn (fun b => b = wb) w w' := by
  have hh := hm.hdr
  have hc := hm.cell f.toNat k.toNat (by omega) (by omega)
  have hz := hm.free (f.toNat * 8 + k.toNat)
  have HM := hid hm
  clear hm
  go_enter Tryz.func70, Tryz.ntmps70
  go_wp2_with (go_at_call 135; refine (right_yes mb wb n _ _ _ hh hf0 hf hk0 hk).mono ?_; rintro e w' ⟨rfl, rfl⟩)
  go_ret
  exact ⟨rfl, HM.out.set _ _ _ (by omega) (by omega), (Turn.refl _ _).setCell _ _ (fun _ => rfl)⟩

set_option maxHeartbeats 400000 in
theorem set_no {mb wb n : Nat} {m : Nat → Nat → Int} {w : World} (hm : MemIs w mb wb n m) (f k v : Int) (h : ¬ (0 ≤ f ∧ f < n ∧ 0 ≤ k ∧ k < 8)) :
    Calls Tryz.prog 70 #[.pointer (some ⟨mb, 0, none⟩), .int .i64 f, .int .i64 k, .int .i64 v] w fun e w' => e = .returned (.iface 28 (.int .i64 2)) ∧ w = w' := by
  have hh := hm.hdr
  clear hm
  have H := hid h
  clear h
  go_enter Tryz.func70, Tryz.ntmps70
  go_wp2_with (go_at_call 135; refine (right_no mb wb n _ _ _ hh H.out).mono ?_; rintro e w' ⟨rfl, rfl⟩)
  go_ret
  exact ⟨rfl, rfl⟩

theorem MemIs.there {w : World} {mb wb n : Nat} {m : Nat → Nat → Int} (h : MemIs w mb wb n m) (f : Nat) (hf : f < n) : w.there wb (f * 8) 8 := fun j hj =>
  ⟨by rw [h.cell f j hf hj]; rfl, h.free _⟩

theorem MemIs.setAll {w : World} {mb wb n : Nat} {m : Nat → Nat → Int} (h : MemIs w mb wb n m) (f : Nat) (hf : f < n) (vs : Nat → Int) (cs : List Value) (hcs : cs = (List.range 8).map fun j => Value.int .i64 (vs j)) :
    MemIs (w.setCells wb (f * 8) cs) mb wb n (fun g j => if g = f then vs j else m g j) := by
  have hl : cs.length = 8 := by rw [hcs]; simp
  refine ⟨?_, ?_, ?_, h.ne, h.pos, h.most⟩
  · rw [World.cell?_setCells_out wb cs _ w ⟨mb, 0, none⟩ (fun e => absurd e h.ne)]; exact h.hdr
  · intro g j hg hj
    by_cases e : g = f
    · subst e
      have := World.cell?_setCells_in wb cs (g * 8) w (fun i hi => (h.there g hf i (by omega)).1) j (by omega)
      rw [if_pos rfl, this]
      simp [hcs]
    · rw [if_neg e, World.cell?_setCells_out wb cs _ w ⟨wb, g * 8 + j, none⟩ (fun _ _ => by show g * 8 + j < f * 8 ∨ f * 8 + cs.length ≤ g * 8 + j; omega)]
      exact h.cell g j hg hj
  · intro i; rw [World.frozen?_setCells]; exact h.free i

/-- A frame's words, as values. -/
def wordsOf (m : Nat → Nat → Int) (f : Nat) : List Value := (List.range 8).map fun j => Value.int .i64 (m f j)

theorem wordsOf_one (m : Nat → Nat → Int) (f : Nat) : (wordsOf m f).toArray.all (·.oneCell') = true := all_oneCell_toArray (fun v hv => by
  unfold wordsOf at hv
  simp only [List.mem_map] at hv
  obtain ⟨j, _, rfl⟩ := hv
  rfl)
/-- Eight noughts. -/
def noughts : Array Value := #[.int .i64 0, .int .i64 0, .int .i64 0, .int .i64 0, .int .i64 0, .int .i64 0, .int .i64 0, .int .i64 0]
theorem noughts_is : noughts = (wordsOf (fun _ _ => 0) 0).toArray := rfl
theorem noughts_one : noughts.all (·.oneCell') = true := by rw [noughts_is]; exact wordsOf_one _ _

theorem info_words : (Tryz.prog.info? 145).map (·.size) = some 8 := by kernel_rfl

set_option maxHeartbeats 400000 in
theorem zero_yes {mb wb n : Nat} {m : Nat → Nat → Int} {w : World} (hm : MemIs w mb wb n m) (f : Int) (hf0 : 0 ≤ f) (hf : f < n) :
    Calls Tryz.prog 68 #[.pointer (some ⟨mb, 0, none⟩), .int .i64 f] w fun e w' => e = .returned .nilIface ∧ MemIs w' mb wb n (memZero m f.toNat) ∧ Turn (fun b => b = wb) w w' := by
  have hh := hm.hdr
  have ht := hid (hm.there f.toNat (by omega))
  have HM := hid hm
  clear hm
  go_enter Tryz.func68, Tryz.ntmps68
  go_wp2_with (first | (go_at_call 135; refine (right_yes mb wb n _ _ _ hh hf0 hf (by decide) (by decide)).mono ?_; rintro e w' ⟨rfl, rfl⟩) | (refine wpList_store_mid rfl 145 _ _ rfl wb (f.toNat * 8) noughts rfl rfl ht.out info_words noughts_one ?_))
  go_ret
  exact ⟨rfl, HM.out.setAll _ (by omega) (fun _ => 0) _ rfl, (Turn.refl _ _).setCells _ _ _ (fun _ => rfl)⟩

theorem MemIs.range {w : World} {mb wb n : Nat} {m : Nat → Nat → Int} (h : MemIs w mb wb n m) (f : Nat) (hf : f < n) : w.rangeAt wb (f * 8) (wordsOf m f) := fun j v hv => by
  unfold wordsOf at hv
  have hj : j < 8 := by have := (List.getElem?_eq_some_iff.1 hv).1; simpa using this
  rw [h.cell f j hf hj]
  simpa [List.getElem?_range hj] using hv

theorem MemIs.eight {w : World} {mb wb n : Nat} {m : Nat → Nat → Int} (h : MemIs w mb wb n m) (f : Nat) (hf : f < n) :
    w.cell? ⟨wb, f * 8, none⟩ = some (.int .i64 (m f 0)) ∧ w.cell? ⟨wb, f * 8 + 1, none⟩ = some (.int .i64 (m f 1)) ∧ w.cell? ⟨wb, f * 8 + 2, none⟩ = some (.int .i64 (m f 2)) ∧ w.cell? ⟨wb, f * 8 + 3, none⟩ = some (.int .i64 (m f 3))
    ∧ w.cell? ⟨wb, f * 8 + 4, none⟩ = some (.int .i64 (m f 4)) ∧ w.cell? ⟨wb, f * 8 + 5, none⟩ = some (.int .i64 (m f 5)) ∧ w.cell? ⟨wb, f * 8 + 6, none⟩ = some (.int .i64 (m f 6)) ∧ w.cell? ⟨wb, f * 8 + 7, none⟩ = some (.int .i64 (m f 7)) :=
  ⟨h.cell f 0 hf (by decide), h.cell f 1 hf (by decide), h.cell f 2 hf (by decide), h.cell f 3 hf (by decide), h.cell f 4 hf (by decide), h.cell f 5 hf (by decide), h.cell f 6 hf (by decide), h.cell f 7 hf (by decide)⟩

/-- The eight stores of a whole frame, one behind the other. -/
def put8 (w : World) (b o : Nat) (v0 v1 v2 v3 v4 v5 v6 v7 : Value) : World :=
  ((((((((w.setCell ⟨b, o, none⟩ v0).setCell ⟨b, o + 1, none⟩ v1).setCell ⟨b, o + 2, none⟩ v2).setCell ⟨b, o + 3, none⟩ v3).setCell ⟨b, o + 4, none⟩ v4).setCell ⟨b, o + 5, none⟩ v5).setCell ⟨b, o + 6, none⟩ v6).setCell ⟨b, o + 7, none⟩ v7)
theorem put8_eq (w : World) (b o : Nat) (v0 v1 v2 v3 v4 v5 v6 v7 : Value) : put8 w b o v0 v1 v2 v3 v4 v5 v6 v7 = w.setCells b o [v0, v1, v2, v3, v4, v5, v6, v7] := rfl
theorem MemIs.drewn {w : World} {mb wb n : Nat} {m : Nat → Nat → Int} (h : MemIs w mb wb n m) : MemIs w.drew mb wb n m := ⟨h.hdr, h.cell, h.free, h.ne, h.pos, h.most⟩
theorem MemIs.copied {w : World} {mb wb n : Nat} {m : Nat → Nat → Int} (h : MemIs w mb wb n m) (f g : Nat) (hf : f < n) :
    MemIs (put8 w wb (f * 8) (.int .i64 (m g 0)) (.int .i64 (m g 1)) (.int .i64 (m g 2)) (.int .i64 (m g 3)) (.int .i64 (m g 4)) (.int .i64 (m g 5)) (.int .i64 (m g 6)) (.int .i64 (m g 7))).drew mb wb n (memCopy m f g) := by
  rw [put8_eq]
  exact (h.setAll f hf (fun j => m g j) [.int .i64 (m g 0), .int .i64 (m g 1), .int .i64 (m g 2), .int .i64 (m g 3), .int .i64 (m g 4), .int .i64 (m g 5), .int .i64 (m g 6), .int .i64 (m g 7)] rfl).drewn
theorem turn_put8 (w : World) (b o : Nat) (v0 v1 v2 v3 v4 v5 v6 v7 : Value) : Turn (fun k => k = b) w (put8 w b o v0 v1 v2 v3 v4 v5 v6 v7).drew := by
  rw [put8_eq]
  exact Turn.drew (Turn.setCells (S := fun k => k = b) (Turn.refl _ _) b _ o (fun _ => rfl))

set_option maxHeartbeats 1000000 in
theorem copy_yes {mb wb n : Nat} {m : Nat → Nat → Int} {w : World} (hm : MemIs w mb wb n m) (f g : Int) (hf0 : 0 ≤ f) (hf : f < n) (hg0 : 0 ≤ g) (hg : g < n) :
    Calls Tryz.prog 69 #[.pointer (some ⟨mb, 0, none⟩), .int .i64 f, .int .i64 g] w fun e w' => e = .returned .nilIface ∧ MemIs w' mb wb n (memCopy m f.toNat g.toNat) ∧ Turn (fun b => b = wb) w w' := by
  have hh := hm.hdr
  have HM := hid hm
  clear hm
  go_enter Tryz.func69, Tryz.ntmps69
  go_wp2_with fail
  refine (right_yes mb wb n _ _ _ hh hf0 hf (by decide) (by decide)).mono ?_
  rintro e w' ⟨rfl, rfl⟩
  go_wp2_with fail
  refine (right_yes mb wb n _ _ _ hh hg0 hg (by decide) (by decide)).mono ?_
  rintro e w' ⟨rfl, rfl⟩
  go_wp2_with fail
  obtain ⟨a0, a1, a2, a3, a4, a5, a6, a7⟩ := HM.out.eight g.toNat (by omega)
  obtain ⟨b0, b1, b2, b3, b4, b5, b6, b7⟩ := HM.out.eight f.toNat (by omega)
  have hz := HM.out.free
  go_region
  all_goals go_wp2
  all_goals go_ret
  all_goals exact ⟨rfl, HM.out.copied f.toNat g.toNat (by omega), turn_put8 w wb (f.toNat * 8) _ _ _ _ _ _ _ _⟩

theorem info_arr : (Tryz.prog.info? 145).map (fun i => (i.zero, i.size, i.bytes)) = some (some (.agg noughts), 8, 64) := by kernel_rfl

theorem made_noughts (n j : Nat) (h : j < n * 8) : (madeCells (Value.agg noughts).cells (n * 8)).toList[j]? = some (.int .i64 0) := by
  have e : (Value.agg noughts).cells = noughts := rfl
  rw [e, madeCells]
  simp only [Array.toList_map, List.getElem?_map, Array.toList_range, List.getElem?_range h, Option.map_some]
  congr 1
  have hs : noughts.size = 8 := rfl
  rw [hs]
  have : j % 8 < 8 := Nat.mod_lt _ (by decide)
  generalize j % 8 = r at this
  match r, this with
  | 0, _ => rfl
  | 1, _ => rfl
  | 2, _ => rfl
  | 3, _ => rfl
  | 4, _ => rfl
  | 5, _ => rfl
  | 6, _ => rfl
  | 7, _ => rfl

/-- What New hands back: a memory of its own, all noughts. -/
def NewMem (w : World) (n : Nat) (e : Ending) (w' : World) : Prop :=
  ∃ mb wb, e = .returned (.tuple #[.pointer (some ⟨mb, 0, none⟩), .nilIface]) ∧ MemIs w' mb wb n (fun _ _ => 0) ∧ w.heap.size ≤ mb ∧ w.heap.size ≤ wb ∧ Turn (fun _ => False) w w'

set_option maxHeartbeats 400000 in
set_option maxRecDepth 100000 in
theorem new_yes_nat (n : Nat) (w : World) (h1 : 1 ≤ n) (h2 : n ≤ 256) : Calls Tryz.prog 55 #[.int .i64 n] w (NewMem w n) := by
  obtain ⟨i0, hi, hz0, hz1, hz2⟩ := info_parts info_arr
  have h1' : (1 : Int) ≤ n := by omega
  have h2' : (n : Int) ≤ 256 := by omega
  go_enter Tryz.func55, Tryz.ntmps55
  go_wp2_with (at_make; refine wpList_make_full _ rfl _ _ 258 rfl w.heap.size 145 i0 (.agg noughts) 8 Tryz.underlying258 hi hz0 hz1 _ _ _ _ n rfl rfl rfl rfl (by rw [hz2]; omega) (by unfold maxLen; omega) (Nat.le_refl _) ?_; intro w1 hown hgrow)
  go_ret2
  have hwb : w.heap.size < w1.heap.size := by
    have := hown.cellAt 0 (by omega)
    rw [made_noughts n 0 (by omega)] at this
    exact lt_of_cell this
  refine ⟨w1.heap.size, w.heap.size, rfl, ⟨?_, ?_, ?_, by omega, h1, h2⟩, by omega, Nat.le_refl _, ((Turn.refl _ _).grown hgrow (fun _ h => by cases h)).alloc _⟩
  · exact World.cell?_alloc_new _ _ _ _
  · intro f k hf hk
    rw [World.cell?_alloc_lt _ _ _ hwb, hown.cellAt _ (by omega)]
    exact made_noughts _ _ (by omega)
  · intro i
    rw [World.frozen?_alloc_old _ _ _ (by show w.heap.size ≠ _; omega)]
    exact hown.frozenAt i

theorem new_yes (n : Int) (w : World) (h1 : 1 ≤ n) (h2 : n ≤ 256) : Calls Tryz.prog 55 #[.int .i64 n] w (NewMem w n.toNat) := by
  obtain ⟨k, rfl⟩ := Int.eq_ofNat_of_zero_le (show 0 ≤ n by omega)
  exact new_yes_nat k w (by omega) (by omega)

end Go.Proofs.YtiohpmcedfbcgabGreatDoor
