/- slices.SortFunc at blocks, by their first frames: a permutation, rising. Conditions: the blocks lie in a block of memory of their own; frames are from 0 to below 256, orders below 7. -/
import Derived.Test.YtiohpmcedfbcgabDoorBlocks
import Derived.Test.YtiohpmcedfbcgabDoorSortB
namespace Go.Proofs.YtiohpmcedfbcgabDoor
open Go.RowKit Go.Sort
set_option linter.unusedVariables false

abbrev SBk := Fin 256 × Fin 7
def sbk (x : SBk) : Bk := ((x.1.val : Int), x.2.val)
def encSbk (x : SBk) : List Value := [.int .i64 (x.1.val : Int), .int .i64 (x.2.val : Int)]
def cmpSbk (x y : SBk) : Int := (x.1.val : Int) - (y.1.val : Int)

set_option maxHeartbeats 1000000 in
theorem bkClosure (x y : SBk) (W : World) : Calls Tryd.prog 99 #[.agg #[.int .i64 (x.1.val : Int), .int .i64 (x.2.val : Int)], .agg #[.int .i64 (y.1.val : Int), .int .i64 (y.2.val : Int)]] W fun e w' => e = .returned (.int .i64 (cmpSbk x y)) ∧ ∃ q os', w' = grow (W.drewN q) os' := by
  have hx := x.1.isLt
  have hy := y.1.isLt
  unfold cmpSbk
  generalize x.1.val = a at *
  generalize y.1.val = b at *
  generalize x.2.val = c at *
  generalize y.2.val = d at *
  go_enter Tryd.func99, Tryd.ntmps99
  go_wp2_with fail
  go_ret
  exact ⟨rfl, 0, _, by rw [alloc_eq_grow, alloc_eq_grow, grow_grow]; rfl⟩

theorem bkLays (blk off size : Nat) (w : World) : CmpLays Tryd.prog 99 #[] encSbk 2 cmpSbk blk off size w := fun _ _ _ _ x y => bkClosure x y _

theorem lt_sbk (x y : SBk) : ltOf cmpSbk x y = decide (x.1.val < y.1.val) := by
  unfold ltOf cmpSbk
  rw [Bool.eq_iff_iff]; simp; omega
theorem swo_sbk : SWO (ltOf cmpSbk) where
  irrefl x := by rw [lt_sbk]; simp
  trans x y z h1 h2 := by rw [lt_sbk] at *; simp at *; omega
  ntrans x y z h1 h2 := by rw [lt_sbk] at *; simp at *; omega

theorem to_sbk (l : List Bk) (h : ∀ t ∈ l, 0 ≤ t.1 ∧ t.1 < 256 ∧ t.2 < 7) : ∃ d : List SBk, d.map sbk = l := by
  induction l with
  | nil => exact ⟨[], rfl⟩
  | cons t l ih =>
    obtain ⟨d, hd⟩ := ih (fun s hs => h s (List.mem_cons_of_mem _ hs))
    obtain ⟨h0, h1, h2⟩ := h t (List.mem_cons_self ..)
    refine ⟨(⟨t.1.toNat, by omega⟩, ⟨t.2, h2⟩) :: d, ?_⟩
    rw [List.map_cons, hd]
    congr 1
    unfold sbk
    simp only
    rw [Int.toNat_of_nonneg h0]

theorem holds_bks {w : World} {g : Nat} {d : Array SBk} : HoldsK encSbk 2 w g 0 d ↔ BksAt w g 0 (d.toList.map sbk) ∧ ∀ j, j < d.size * 2 → w.frozen? ⟨g, j, none⟩ = false := by
  unfold HoldsK Holds
  rw [size_flatK]
  have hat : ∀ j, j < d.size * 2 → (flatK encSbk 2 d)[j]! = (encSbk d[j / 2]!)[j % 2]! := fun j hj => get_flatK encSbk 2 d j hj
  have hd : ∀ i (hi : i < d.size), d[i]! = d[i] := fun i hi => getElem!_pos d i hi
  constructor
  · intro h
    refine ⟨fun j t ht => ?_, fun j hj => by have := (h j hj).2; simpa using this⟩
    rw [List.getElem?_map] at ht
    have hj : j < d.size := by
      rcases Nat.lt_or_ge j d.size with h' | h'
      · exact h'
      · rw [List.getElem?_eq_none (by simpa using h')] at ht; cases ht
    have hx : d.toList[j]? = some d[j] := by simp [hj]
    rw [hx] at ht
    simp only [Option.map_some, Option.some.injEq] at ht
    subst ht
    have h0 := (h (j * 2) (by omega)).1
    have h1 := (h (j * 2 + 1) (by omega)).1
    rw [hat _ (by omega), show j * 2 / 2 = j by omega, show j * 2 % 2 = 0 by omega, hd j hj] at h0
    rw [hat _ (by omega), show (j * 2 + 1) / 2 = j by omega, show (j * 2 + 1) % 2 = 1 by omega, hd j hj] at h1
    exact ⟨h0, h1⟩
  · rintro ⟨h, hf⟩ j hj
    refine ⟨?_, by rw [Nat.zero_add]; exact hf j hj⟩
    have hi : j / 2 < d.size := by omega
    have hx : (d.toList.map sbk)[j / 2]? = some (sbk d[j / 2]) := by simp [hi]
    obtain ⟨h0, h1⟩ := h _ _ hx
    rw [hat j hj, hd _ hi]
    have hm : j % 2 = 0 ∨ j % 2 = 1 := by omega
    rcases hm with hm | hm
    · have e : 0 + j = 0 + j / 2 * 2 := by omega
      rw [hm, e]; exact h0
    · have e : 0 + j = 0 + j / 2 * 2 + 1 := by omega
      rw [hm, e]; exact h1

theorem turn_sort {α : Type} [Inhabited α] (enc : α → List Value) (k : Nat) (w : World) (blk off m : Nat) (d : Array α) (os : Array Obj) : Turn (fun j => j = blk) w (sortWorldK enc k w blk off m d os) := by
  refine ⟨rfl, rfl, rfl, ?_, fun j hj hn => ?_⟩
  · simp [sortWorldK, grow, putRowK, putRow, mapBlock]
  · simp only [sortWorldK, grow, putRowK, putRow, mapBlock]
    rw [Array.getElem?_append_left (by simpa using hj)]
    show (w.heap.modify blk _)[j]? = w.heap[j]?
    rw [Array.getElem?_modify, if_neg (Ne.symm hn)]

theorem enter_bkClosure (args : Array Value) (w : World) : (callFunc 99 args).run Tryd.prog w = .ok (.enter 99 args) w := by kernel_rfl

def Sorted (l : List Bk) (g : Nat) (w : World) (e : Ending) (w' : World) : Prop :=
  e = .returned (.tuple #[]) ∧ ∃ l', l'.Perm l ∧ l'.Pairwise (fun s t => s.1 ≤ t.1) ∧ BksAt w' g 0 l' ∧ Turn (fun j => j = g) w w'

theorem sort_bks {w : World} {g cap : Nat} {l : List Bk} (h : BlksAt w (.slice (some ⟨g, 0, none⟩) l.length cap) l) (hb : ∀ t ∈ l, 0 ≤ t.1 ∧ t.1 < 256 ∧ t.2 < 7) (hl : l.length ≤ 1000000) :
    Calls Tryd.prog 98 #[.slice (some ⟨g, 0, none⟩) l.length cap, .func (.func 99) #[] #[]] w (Sorted l g w) := by
  obtain ⟨d, rfl⟩ := to_sbk l hb
  have hg : g < w.heap.size ∧ BksAt w g 0 (d.map sbk) := by
    rcases h.shape with ⟨h0, _⟩ | ⟨g', cap', h0, _, _, h1, h2⟩
    · cases h0
    · cases h0; exact ⟨h1, h2⟩
  have hH : HoldsK encSbk 2 w g 0 d.toArray := holds_bks.2 ⟨by simpa using hg.2, fun j _ => World.ownsRow.frozenAt h j⟩
  have hcon := AnyQ.slices_SortFunc laysSortB 2 Tryd.isAgg36 Tryd.sizeOf36 encSbk (fun _ => rfl) (fun x v hv => by simp [encSbk] at hv; rcases hv with rfl | rfl <;> rfl) cmpSbk swo_sbk 99 #[] g 0 cap d.toArray w enter_bkClosure (bkLays g 0 _ w) hH hg.1 (by simp at hl ⊢; omega)
  have hs : d.toArray.size = (d.map sbk).length := by simp
  rw [hs] at hcon
  refine hcon.mono ?_
  rintro e w' ⟨rfl, d', m, os, hp, hso, rfl⟩
  have hsz : d'.size = d.toArray.size := hp.1
  have hH' := holdsK_sortWorldK_c encSbk 2 w g 0 d.toArray d' m os hH hg.1 hsz
  refine ⟨rfl, d'.toList.map sbk, ?_, ?_, (holds_bks.1 hH').1, turn_sort _ _ _ _ _ _ _ _⟩
  · have h3 := hp.2.2
    rw [← hs] at h3
    have e1 : (d'.extract 0 d.toArray.size).toList = d'.toList := by rw [← hsz]; simp
    have e2 : (d.toArray.extract 0 d.toArray.size).toList = d := by simp
    rw [e1, e2] at h3
    exact h3.map _
  · rw [List.pairwise_map, List.pairwise_iff_getElem]
    intro i j hi hj hij
    have h3 := hso i j (Nat.zero_le _) hij (by rw [← hs, ← hsz]; simpa using hj)
    rw [lt_sbk] at h3
    simp only [Array.length_toList] at hi hj
    rw [getElem!_pos d' j hj, getElem!_pos d' i hi] at h3
    simp at h3
    simp only [sbk, Array.getElem_toList]
    omega

theorem sort_none (a : Option Addr) (cap : Nat) (fv : Value) (w : World) : Calls Tryd.prog 98 #[.slice a 0 cap, fv] w fun e w' => e = .returned (.tuple #[]) ∧ w' = w :=
  AnyF.slices_SortFunc_none laysSortB a cap fv w
end Go.Proofs.YtiohpmcedfbcgabDoor
