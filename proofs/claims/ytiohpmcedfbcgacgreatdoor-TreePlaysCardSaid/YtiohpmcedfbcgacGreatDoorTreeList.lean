/- Several texts of ours in one, in build order (TreeList, SortStrs). Conditions: each theorem's own premises. -/
import Derived.Test.YtiohpmcedfbcgacGreatDoorTree
import Derived.Test.YtiohpmcedfbcgacGreatDoorKeysStr
import Derived.Test.YtiohpmcedfbcgacGreatDoorKeysN
import Derived.Test.YtiohpmcedfbcgacGreatDoorRowV
/- Package tree: List: a directory's names, in order. Conditions: each theorem's own premises. -/
namespace Go.Proofs.YtiohpmcedfbcgacGreatDoor
open Go.RowKit Go.Maps Go.Sort Go.Shelf Go.WideElems
set_option linter.unusedVariables false

theorem sortedS_of_perm {xs ys : List (List UInt8)} (h : xs.Perm ys) : xs.mergeSort (fun x y => decide (x ≤ y)) = ys.mergeSort (fun x y => decide (x ≤ y)) := by
  have tr : ∀ a b c : List UInt8, decide (a ≤ b) = true → decide (b ≤ c) = true → decide (a ≤ c) = true := fun a b c h1 h2 => by simp only [decide_eq_true_eq] at *; exact List.le_trans h1 h2
  have tot : ∀ a b : List UInt8, (decide (a ≤ b) || decide (b ≤ a)) = true := fun a b => by simp only [Bool.or_eq_true, decide_eq_true_eq]; exact List.le_total a b
  have hp : (xs.mergeSort (fun x y => decide (x ≤ y))).Perm (ys.mergeSort (fun x y => decide (x ≤ y))) := (List.mergeSort_perm _ _).trans (h.trans (List.mergeSort_perm _ _).symm)
  exact List.Perm.eq_of_pairwise (le := fun a b : List UInt8 => decide (a ≤ b) = true) (fun a b _ _ h1 h2 => by simp only [decide_eq_true_eq] at *; exact List.le_antisymm h1 h2) (List.pairwise_mergeSort tr tot xs) (List.pairwise_mergeSort tr tot ys) hp
/-- A directory's names, in order. -/
def sortedNs (ds : List (ByteArray × Int)) : List ByteArray := ((ds.map (·.1.data.toList)).mergeSort fun x y => decide (x ≤ y)).map fun l => ⟨l.toArray⟩
theorem sortedNs_length (ds : List (ByteArray × Int)) : (sortedNs ds).length = ds.length := by
  unfold sortedNs
  rw [List.length_map, (List.mergeSort_perm _ _).length_eq, List.length_map]
theorem sortedNs_mem {ds : List (ByteArray × Int)} {s : ByteArray} : s ∈ sortedNs ds ↔ ∃ e ∈ ds, e.1 = s := by
  unfold sortedNs
  rw [List.mem_map]
  constructor
  · rintro ⟨l, hl, rfl⟩
    obtain ⟨e, he, rfl⟩ := List.mem_map.1 ((List.mergeSort_perm _ _).mem_iff.1 hl)
    exact ⟨e, he, (Go.Lib.mk_data e.1).symm⟩
  · rintro ⟨e, he, rfl⟩
    exact ⟨_, (List.mergeSort_perm _ _).mem_iff.2 (List.mem_map.2 ⟨e, he, rfl⟩), Go.Lib.mk_data e.1⟩
section
variable {w w' w1 w2 w3 : World} {tb nm b d : Nat} {T : PT} {B D : Int → Nat} {F : Nat → Prop} {p q : PN} {n : Int} {ds : List (ByteArray × Int)}
theorem keysN_is (mb : Option Nat) (W : World) : Calls Tryz.prog 127 #[.map mb] W fun e w' => e = .returned (.func (.func 229) #[] #[.pointer (some ⟨W.heap.size, 0, none⟩)]) ∧ w' = W.alloc (.cells #[.map mb] 166) :=
  callsIn_wide.1 (AnyZ.keys_in laysKeysN Fence.wide 5 trivial rfl mb W)
theorem sortedN_is (h : MapIs w d .string encS encI ds) (hwf : ∀ t ∈ ds, t.1.size ≤ maxLen) (hl : ds.length ≤ 1000000) :
    Calls Tryz.prog 126 #[.func (.func 229) #[] #[.pointer (some ⟨w.heap.size, 0, none⟩)]] (w.alloc (.cells #[.map (some d)] 166)) fun e w' => ∃ v, e = .returned v ∧ RowV w' 9 v ((sortedNs ds).map encS) ∧ Turn (fun _ => False) w w' ∧ ∀ g, v.ownBlock = some g → w.heap.size ≤ g := by
  obtain ⟨D0, hown, hperm, hsize⟩ := h.ownsS Tryz.underlying9 hwf (by unfold maxLen; omega)
  have hbl := hown.lt
  have hmax : Maps.size D0 ≤ maxLen := by rw [hsize]; unfold maxLen; omega
  have hbytes : Maps.size D0 * 16 ≤ 140737488355328 := by rw [hsize]; omega
  have hseq : SeqGives Fence.wide 2 Tryz.prog 229 #[.pointer (some ⟨w.heap.size, 0, none⟩)] encStr (fun ss => ss.Perm (strKeys D0)) (Maps.size D0) (w.alloc (.cells #[.map (some d)] 166)) :=
    AnyZ.keys_gives (ρ := laysKeysN_ren) { laysKeysN with } Fence.wide _ trivial rfl (by omega) w.heap.size d ds.length D0 _ (by simp) (by simp) (by
      obtain ⟨es, clock, hb, Ft, hs, hD⟩ := hown
      exact ⟨es, clock, (Below.heap_alloc _ _ d hbl).trans hb, Ft, hs, hD⟩)
  have cS := AnyZ.sorted_in laysSortedS Fence.wide 5 trivial trivial trivial trivial rfl (by omega) (sortsS _) (enters_of Tryz.func228 (by kernel_rfl) rfl) 229 #[.pointer (some ⟨w.heap.size, 0, none⟩)] trivial (enters_of Tryz.func229 (by kernel_rfl) rfl) _ _ hmax hbytes _ hseq
  change CallsIn _ _ Tryz.prog 126 _ _ _ at cS
  refine (callsIn_wide.1 cS).mono ?_
  rintro e w' ⟨v, ss, rfl, hS, hrow, hnil, hb⟩
  have hpp := hS.trans hperm
  have hlen : ss.length = ds.length := by rw [hpp.length_eq]; simp
  have hrow2 := ownsRow_base_a hrow (Nat.zero_le _)
  have hfresh : ∀ g, v.ownBlock = some g → w.heap.size ≤ g := fun g hg => by
    have h5 := ownBlock_ge hrow hg
    rw [World.size_alloc] at h5
    omega
  rw [sortedS_of_perm hpp, hlen] at hrow2
  have hbel := ((Below.refl _ w).alloc (Nat.le_refl _) (.cells #[.map (some d)] 166)).trans (hb.mono (by simp))
  refine ⟨v, rfl, ?_, ⟨hbel.os, hbel.tape, hbel.output, hbel.size, fun k hk _ => hbel.block k hk⟩, hfresh⟩
  unfold RowV
  rw [List.length_map, sortedNs_length]
  have e1 : (sortedNs ds).map encS = ((ds.map (·.1.data.toList)).mergeSort fun x y => decide (x ≤ y)).map encStr := by
    unfold sortedNs
    rw [List.map_map]
    rfl
  rw [e1]
  exact hrow2
theorem RowV.strs {v : Value} {l : List ByteArray} (h : RowV w 9 v (l.map encS)) : ∃ a cap, v = .slice a l.length cap ∧ StrsIn w a l ∧ (l ≠ [] → l.length ≤ cap) := by
  rcases h.shape with ⟨rfl, h0⟩ | ⟨g, cap, rfl, hc, _, hg⟩
  · have : l = [] := List.map_eq_nil_iff.1 h0
    subst this
    exact ⟨none, 0, rfl, .inl rfl, fun h => absurd rfl h⟩
  · refine ⟨some ⟨g, 0, none⟩, cap, by rw [List.length_map], .inr ⟨g, 0, rfl, hg, fun j s hs => ?_⟩, fun _ => by rw [List.length_map] at hc; exact hc⟩
    have h1 := h.cell j (encS s) (by rw [List.getElem?_map, hs]; rfl)
    rw [Nat.zero_add]
    exact h1
def listE (T : PT) (path : ByteArray) : Int := if (findT T path).1 ≠ 0 then (findT T path).1 else if isDirT T (findT T path).2 then 0 else 6
def listT (T : PT) (path : ByteArray) : List ByteArray := if listE T path = 0 then sortedNs ((mget T (findT T path).2).elim [] (·.ds)) else []
theorem findT_there2 (h : TOk T) {path : ByteArray} (hz : (findT T path).1 = 0) : ∃ q, mget T (findT T path).2 = some q := by
  unfold findT at *
  cases hn : namesOf path with
  | none => rw [hn] at hz; cases hz
  | some l =>
    rw [hn] at hz
    obtain ⟨p0, hp0, _⟩ := h.root
    exact walkT_there h l 0 p0 hp0 hz
/-- What List hands back. -/
def ListIs (T : PT) (path : ByteArray) (w : World) (e : Ending) (w' : World) : Prop := ∃ v, e = .returned (.tuple #[v, TErr (listE T path)]) ∧ RowV w' 9 v ((listT T path).map encS) ∧ Turn (fun _ => False) w w' ∧ ∀ g, v.ownBlock = some g → w.heap.size ≤ g
theorem RowV.none (w : World) (e : TypeId) : RowV w e (.slice none 0 0) [] := ⟨by simp, .inl ⟨rfl, rfl⟩⟩
set_option maxHeartbeats 2000000 in
set_option maxRecDepth 100000 in
theorem list_is (h : TreeIs w tb T F) (path : ByteArray) (hs : path.size < 4294967281) (hb : ∀ n p, mget T n = some p → p.ds.length ≤ 1000000) :
    Calls Tryz.prog 46 #[.pointer (some ⟨tb, 0, none⟩), .string path] w (ListIs T path w) := by
  have HI := hid h
  have HFd := hid (find_is h path hs)
  have HB := hid hb
  clear h hb
  go_enter Tryz.func46, Tryz.ntmps46
  go_wp2_with fail
  refine HFd.out.mono ?_
  rintro e w1 ⟨rfl, t1⟩
  have HT1 := hid t1
  clear t1
  by_cases hz : (findT T path).1 = 0
  · obtain ⟨q, hq⟩ := findT_there2 HI.out.ok hz
    obtain ⟨n, hn⟩ : ∃ n, (findT T path).2 = n := ⟨_, rfl⟩
    rw [hn] at hq
    rw [hz, hn]
    have te : TErr 0 = .nilIface := rfl
    obtain ⟨nm, B, D, h1, hok, hF⟩ := HI.out.turned HT1.out (fun _ _ => id)
    have hh := h1.hdr
    have lk := h1.look hq
    have nd := h1.nd n q hq
    have c0 := nd.c0
    have mno := map_some_nil (D n) w1
    have myes := map_nil_nil w1
    cases hqd : q.isDir with
    | false =>
      rw [hqd] at c0
      simp only [Bool.false_eq_true, if_false] at c0
      have hE : listE T path = 6 := by
        unfold listE
        rw [if_neg (by rw [hz]; simp), hn, if_neg (by unfold isDirT; rw [hq]; show ¬ q.isDir = true; rw [hqd]; decide)]
      have hL : listT T path = [] := if_neg (by rw [hE]; decide)
      have HE := hid hE
      have HLs := hid hL
      clear nd hqd hE hL h1 hok hF hz hn hq
      go_wp2_with fail
      go_returns
      unfold ListIs
      rw [HE.out, HLs.out]
      exact ⟨_, rfl, RowV.none _ _, HT1.out, fun g hg => by cases hg⟩
    | true =>
      rw [hqd] at c0
      simp only [if_true] at c0
      have hE : listE T path = 0 := by
        unfold listE
        rw [if_neg (by rw [hz]; simp), hn, if_pos (by unfold isDirT; rw [hq]; exact hqd)]
      have hL : listT T path = sortedNs q.ds := by
        unfold listT
        rw [if_pos hE, hn, hq]; rfl
      have HE := hid hE
      have HLs := hid hL
      have HK := hid (keysN_is (some (D n)) w1)
      have HSo := hid (sortedN_is (nd.dir hqd) (fun t ht => by
        have h2 := okName_true (hok.nms n q hq t ht)
        unfold maxLen; omega) (HB.out n q hq))
      clear nd hqd hE hL h1 hok hF hz hn hq
      go_wp2_with fail
      refine HK.out.mono ?_
      rintro e w2 ⟨rfl, hw⟩; subst w2
      go_wp2_with fail
      refine HSo.out.mono ?_
      rintro e w3 ⟨v, rfl, hrow, t3, hf3⟩
      have HF3 := hid hf3
      have HS1 := hid HT1.out.size
      clear hf3
      have HRow := hid hrow
      have HT3 := hid t3
      clear hrow t3
      go_wp2_with fail
      go_returns
      unfold ListIs
      rw [HE.out, HLs.out]
      exact ⟨v, rfl, HRow.out, HT1.out.trans HT3.out, fun g hg => Nat.le_trans HS1.out (HF3.out g hg)⟩
  · have te := TErr_of hz
    have hE : listE T path = (findT T path).1 := if_pos hz
    have hL : listT T path = [] := if_neg (by rw [hE]; exact hz)
    have HE := hid hE
    have HLs := hid hL
    have HTe := hid te
    rw [te]
    clear hz hE te hL
    go_wp2_with fail
    go_returns
    unfold ListIs
    rw [HE.out, HLs.out, HTe.out]
    exact ⟨_, rfl, RowV.none _ _, HT1.out, fun g hg => by cases hg⟩
end
end Go.Proofs.YtiohpmcedfbcgacGreatDoor
/- sort.Strings at a row of strings. Conditions: each theorem's own premises. -/
namespace Go.Proofs.YtiohpmcedfbcgacGreatDoor
open Go.RowKit Go.Maps Go.Sort Go.Shelf Go.WideElems
set_option linter.unusedVariables false
def SortedStrs (xs : List (List UInt8)) (g : Nat) (w : World) (e : Ending) (w' : World) : Prop :=
  e = .returned (.tuple #[]) ∧ Turn (fun k => k = g) w w' ∧ ∀ (j : Nat) (x : List UInt8), (xs.mergeSort fun x y => decide (x ≤ y))[j]? = some x → w'.cell? ⟨g, j, none⟩ = some (encStr x)
theorem sortS_row {w : World} {g cap : Nat} {xs : List (List UInt8)} (h : RowV w 9 (.slice (some ⟨g, 0, none⟩) (xs.map encStr).length cap) (xs.map encStr)) (hl : xs.length ≤ 1000000) :
    Calls Tryz.prog 228 #[.slice (some ⟨g, 0, none⟩) xs.length cap] w (SortedStrs xs g w) := by
  have hg : g < w.heap.size := by
    rcases h.shape with ⟨h0, _⟩ | ⟨g', cap', h0, _, _, h1⟩
    · cases h0
    · cases h0; exact h1
  have hH : Holds encStr w g 0 xs.toArray := fun j hj => by
    have hj' : j < xs.length := by simpa using hj
    refine ⟨?_, by rw [Nat.zero_add]; exact h.frozen j⟩
    rw [Nat.zero_add, h.cell j (encStr xs[j]) (by rw [List.getElem?_map, List.getElem?_eq_getElem hj']; rfl)]
    rw [getElem!_pos xs.toArray j hj]
    simp
  refine (AnyM.slices_Sort_string laysSortS g 0 cap xs w hH hg (by omega)).mono ?_
  rintro e w' ⟨rfl, n, os, rfl⟩
  have hs : (xs.mergeSort fun x y => decide (x ≤ y)).toArray.size = xs.toArray.size := by simp [List.length_mergeSort]
  have hg' : g < (putRow encStr (Sort.ahead w n) g 0 (xs.mergeSort fun x y => decide (x ≤ y)).toArray).heap.size := by simpa [putRow, mapBlock, Sort.ahead] using hg
  have hF : Holds encStr (grow (putRow encStr (Sort.ahead w n) g 0 (xs.mergeSort fun x y => decide (x ≤ y)).toArray) os) g 0 (xs.mergeSort fun x y => decide (x ≤ y)).toArray := holds_grow _ _ _ _ _ _ hg' (holds_putRow encStr _ g 0 _ _ (holds_ahead encStr w n g 0 _ hH) hs)
  refine ⟨rfl, ⟨rfl, rfl, rfl, by simp [grow, putRow, mapBlock, Sort.ahead], fun j hj hn => ?_⟩, fun j x hj => ?_⟩
  · simp only [grow, putRow, mapBlock, Sort.ahead]
    rw [Array.getElem?_append_left (by simpa using hj)]
    show (w.heap.modify g _)[j]? = w.heap[j]?
    rw [Array.getElem?_modify, if_neg (Ne.symm hn)]
  · have hjl := (List.getElem?_eq_some_iff.1 hj).1
    have h1 := (hF j (by simpa using hjl)).1
    rw [Nat.zero_add] at h1
    rw [h1, getElem!_pos _ j (by simpa using hjl)]
    have h2 := (List.getElem?_eq_some_iff.1 hj).2
    simp [h2]
theorem sortStrs {w : World} {g cap : Nat} {xs : List (List UInt8)} (h : RowV w 9 (.slice (some ⟨g, 0, none⟩) (xs.map encStr).length cap) (xs.map encStr)) (hl : xs.length ≤ 1000000) :
    Calls Tryz.prog 216 #[.slice (some ⟨g, 0, none⟩) xs.length cap] w (SortedStrs xs g w) := by
  have HS := hid (sortS_row h hl)
  clear h
  go_enter Tryz.func216, Tryz.ntmps216
  go_wp2_with fail
  refine HS.out.mono ?_
  rintro e w1 ⟨rfl, t, hc⟩
  have HT := hid t
  have HC := hid hc
  clear t hc
  go_wp2_with fail
  go_end0
  exact ⟨rfl, HT.out, HC.out⟩
theorem sortStrs_none (w : World) : Calls Tryz.prog 216 #[.slice none 0 0] w fun e w' => e = .returned (.tuple #[]) ∧ w' = w := by
  have HS := hid (AnyM.slices_Sort_string_none (P := Tryz.prog) laysSortS none 0 w)
  go_enter Tryz.func216, Tryz.ntmps216
  go_wp2_with fail
  refine HS.out.mono ?_
  rintro e w1 ⟨rfl, hw⟩
  subst hw
  go_wp2_with fail
  go_end0
  exact ⟨rfl, rfl⟩
end Go.Proofs.YtiohpmcedfbcgacGreatDoor
