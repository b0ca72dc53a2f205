/- A tree with one file alone that has many names, each the text of a small number: plain. No program in sight. Conditions: each theorem's own premises. -/
import Derived.Test.YtiohpmcedfbcgacGreatDoorTreeFlat
import Derived.Lib.ItoaNum
namespace Go.Proofs.YtiohpmcedfbcgacGreatDoor
open Go.RowKit Go.Lib
set_option linter.unusedVariables false

def nmOf (i : Nat) : ByteArray := ⟨(itoa i).toArray⟩
def pthOf (i : Nat) : ByteArray := ⟨#[47]⟩ ++ nmOf i
theorem all_below {p : Nat → Bool} (h : (List.range 20).all p = true) {i : Nat} (hi : i < 20) : p i = true := List.all_eq_true.1 h i (List.mem_range.2 hi)
theorem itoa_small {i : Nat} (hi : i < 20) : itoa i = if i < 10 then [UInt8.ofNat (48 + i)] else [49, UInt8.ofNat (38 + i)] := by
  have h : ∀ k : Nat, k < 20 → itoa k = if k < 10 then [UInt8.ofNat (48 + k)] else [49, UInt8.ofNat (38 + k)] := by
    intro k hk
    rcases k with _ | _ | _ | _ | _ | _ | _ | _ | _ | _ | _ | _ | _ | _ | _ | _ | _ | _ | _ | _ | k
    all_goals first | (exfalso; omega) | (unfold itoa; rw [if_neg (by omega)]; simp [decDigits]; done)
  exact h i hi
def litN (i : Nat) : ByteArray := if i < 10 then ⟨#[UInt8.ofNat (48 + i)]⟩ else ⟨#[49, UInt8.ofNat (38 + i)]⟩
theorem nmOf_lit {i : Nat} (hi : i < 20) : nmOf i = litN i := by
  unfold nmOf litN
  rw [itoa_small hi]
  by_cases h : i < 10
  · rw [if_pos h, if_pos h]
  · rw [if_neg h, if_neg h]
theorem names_ok {i : Nat} (hi : i < 20) : namesOf (pthOf i) = some [nmOf i] := by
  have h : (List.range 20).all (fun i => decide (namesOf (⟨#[47]⟩ ++ litN i) = some [litN i])) = true := by kernel_rfl
  have := of_decide_eq_true (all_below h hi)
  unfold pthOf
  rw [nmOf_lit hi]
  exact this
theorem pth_size {i : Nat} (hi : i < 20) : (pthOf i).size ≤ 3 := by
  have h : (List.range 20).all (fun i => decide ((⟨#[47]⟩ ++ litN i : ByteArray).size ≤ 3)) = true := by kernel_rfl
  have := of_decide_eq_true (all_below h hi)
  unfold pthOf
  rw [nmOf_lit hi]
  exact this
theorem nm_size {i : Nat} (hi : i < 20) : (nmOf i).size ≤ 2 := by
  have h : (List.range 20).all (fun i => decide ((litN i).size ≤ 2)) = true := by kernel_rfl
  have := of_decide_eq_true (all_below h hi)
  rw [nmOf_lit hi]
  exact this
theorem nm_inj {i j : Nat} (hi : i < 20) (hj : j < 20) (e : nmOf i = nmOf j) : i = j := by
  have h : (List.range 20).all (fun i => (List.range 20).all fun j => decide (litN i = litN j → i = j)) = true := by kernel_rfl
  rw [nmOf_lit hi, nmOf_lit hj] at e
  exact of_decide_eq_true (all_below (all_below h hi) hj) e
/-- The names of a list of numbers, in the directory of all. -/
def dsOf (l : List Nat) : List (ByteArray × Int) := l.map fun i => (nmOf i, 1)
def TL (l : List Nat) (s : ByteArray) : PT := TS (dsOf l) s l.length 0
section
variable {l : List Nat} {s : ByteArray} {i j k : Nat}
theorem dsOf_one (l : List Nat) : ∀ e ∈ dsOf l, e.2 = 1 := fun e he => by
  obtain ⟨i, _, rfl⟩ := List.mem_map.1 he
  rfl
theorem dsOf_none (hl : ∀ j ∈ l, j < 20) (hi : i < 20) (h : i ∉ l) : mget (dsOf l) (nmOf i) = none := mget_none fun p hp => by
  obtain ⟨j, hj, rfl⟩ := List.mem_map.1 hp
  exact fun e => h (by rw [← nm_inj (hl j hj) hi e]; exact hj)
theorem dsOf_some (h : i ∈ l) : mget (dsOf l) (nmOf i) = some 1 := by
  cases hs : mget (dsOf l) (nmOf i) with
  | none => exact absurd rfl (mget_none_iff.1 hs (nmOf i, 1) (List.mem_map.2 ⟨i, h, rfl⟩))
  | some m => rw [show m = 1 from dsOf_one l _ (mem_of_mget hs)]
theorem tl_file : fileE (TL l s) 1 = 0 := rfl
theorem tl_find (h : i ∈ l) (hi : i < 20) : findT (TL l s) (pthOf i) = (0, 1) := by
  unfold TL
  rw [findTS (dsOf_one l) (names_ok hi), dsOf_some h]; rfl
theorem tl_link (hl : ∀ j ∈ l, j < 20) (h : i ∈ l) (hi : i < 20) (hj : j < 20) (hn : j ∉ l) : linkE (TL l s) (pthOf i) (pthOf j) = 0 ∧ linkT (TL l s) (pthOf i) (pthOf j) = TL (l ++ [j]) s := by
  have hm := dsOf_none hl hj hn
  have hf : findT (TL l s) (pthOf i) = (0, 1) := tl_find h hi
  have hp : placeT (TL l s) (pthOf j) = (0, 0, nmOf j) := placeTS_one (names_ok hj)
  have hd : dsT (TL l s) 0 = dsOf l := rfl
  have hE : linkE (TL l s) (pthOf i) (pthOf j) = 0 := by
    unfold linkE
    rw [hf, hp, if_neg (by simp), if_neg (by simp [isDirT, TL, TS1]), if_neg (by simp)]
    simp only [hd, hm]
    rfl
  refine ⟨hE, ?_⟩
  have hput : mput (dsOf l) (nmOf j) 1 = dsOf (l ++ [j]) := by
    unfold mput
    rw [hm, if_neg (by simp)]
    unfold dsOf
    rw [List.map_append]; rfl
  unfold linkT
  rw [if_pos hE, hf, hp]
  show TS (mput (dsOf l) (nmOf j) 1) s (l.length + 1) 0 = _
  rw [hput]
  unfold TL
  rw [List.length_append, List.length_singleton]
theorem cut_list (hk : l[k]? = some i) (hd : l.Nodup) : l.filter (fun j => decide (j ≠ i)) = l.take k ++ l.drop (k + 1) ∧ i ∉ l.take k ++ l.drop (k + 1) := by
  have e : l = l.take k ++ i :: l.drop (k + 1) := by
    obtain ⟨hkl, hi⟩ := List.getElem?_eq_some_iff.1 hk
    rw [← hi, List.getElem_cons_drop, List.take_append_drop]
  have hd2 := hd
  rw [e] at hd2
  obtain ⟨h1, h2, h3⟩ := List.nodup_append.1 hd2
  have h4 := (List.nodup_cons.1 h2).1
  have ht : i ∉ l.take k := fun h => h3 _ h _ (List.mem_cons_self ..) rfl
  have hn : i ∉ l.take k ++ l.drop (k + 1) := fun h => by
    rcases List.mem_append.1 h with h | h
    · exact ht h
    · exact h4 h
  refine ⟨?_, hn⟩
  conv => lhs; rw [e]
  rw [List.filter_append, List.filter_cons, if_neg (by simp), ← List.filter_append]
  exact List.filter_eq_self.2 fun a ha => decide_eq_true fun ea => hn (ea ▸ ha)
theorem tl_unlink (hl : ∀ j ∈ l, j < 20) (hk : l[k]? = some i) (hd : l.Nodup) : unlinkE (TL l s) (pthOf i) = 0 ∧
    unlinkT (TL l s) (pthOf i) = if l.length = 1 then rootT else TL (l.take k ++ l.drop (k + 1)) s := by
  have hmem : i ∈ l := List.mem_of_getElem? hk
  have hi := hl i hmem
  obtain ⟨u1, u2⟩ := unlinkTS (ds := dsOf l) (x := s) (names := l.length) (held := 0) (dsOf_one l) (names_ok hi) (by rw [dsOf_some hmem]; rfl)
  refine ⟨u1, ?_⟩
  unfold TL
  rw [u2]
  obtain ⟨hf, hn⟩ := cut_list hk hd
  have hmd : mdel (dsOf l) (nmOf i) = dsOf (l.take k ++ l.drop (k + 1)) := by
    rw [← hf]
    unfold mdel dsOf
    rw [List.filter_map]
    congr 1
    apply List.filter_congr
    intro a ha
    simp only [Function.comp]
    by_cases e : a = i
    · subst e; simp
    · have e2 : nmOf a ≠ nmOf i := fun h => e (nm_inj (hl a ha) hi h)
      simp [e, e2]
  have hkl := (List.getElem?_eq_some_iff.1 hk).1
  have hlen : (l.take k ++ l.drop (k + 1)).length = l.length - 1 := by rw [List.length_append, List.length_take, List.length_drop]; omega
  rw [hmd]
  by_cases h1 : l.length = 1
  · rw [if_pos h1]
    have h0 : l.take k ++ l.drop (k + 1) = [] := List.eq_nil_of_length_eq_zero (by omega)
    rw [h0, h1]
    exact goneTS
  · rw [if_neg h1, hlen]
    exact goneTS_named (by omega)
theorem tl_again (hl : ∀ j ∈ l, j < 20) (hi : i < 20) (hn : i ∉ l) : unlinkE (TL l s) (pthOf i) = 7 ∧ unlinkT (TL l s) (pthOf i) = TL l s := by
  have hp : placeT (TL l s) (pthOf i) = (0, 0, nmOf i) := placeTS_one (names_ok hi)
  have hd : dsT (TL l s) 0 = dsOf l := rfl
  have hE : unlinkE (TL l s) (pthOf i) = 7 := by
    unfold unlinkE
    rw [hp, if_neg (by simp)]
    simp only [hd, dsOf_none hl hi hn, Option.elim]
  exact ⟨hE, if_neg (by rw [hE]; decide)⟩
theorem root_again (hi : i < 20) : unlinkE rootT (pthOf i) = 7 ∧ unlinkT rootT (pthOf i) = rootT := by
  have hp : placeT rootT (pthOf i) = (0, 0, nmOf i) := placeT_dir (names_ok hi) (by simp) rfl rfl
  have hE : unlinkE rootT (pthOf i) = 7 := by
    unfold unlinkE
    rw [hp, if_neg (by simp)]
    rfl
  exact ⟨hE, if_neg (by rw [hE]; decide)⟩
theorem tl_read (h : s.size ≤ 100) : readE (TL l s) 1 0 100 = 0 ∧ readT (TL l s) 1 0 100 = s := by
  obtain ⟨r1, r2⟩ := readTS (ds := dsOf l) (x := s) (names := l.length) (held := 0) (at' := 0) (many := 100) (by omega) (by omega)
  refine ⟨r1, ?_⟩
  show readT (TS (dsOf l) s l.length 0) 1 0 100 = s
  rw [r2]
  unfold readB
  show s.extract (min 0 s.size) (min 0 s.size + min 100 (s.size - min 0 s.size)) = s
  rw [Nat.zero_min, Nat.sub_zero, Nat.zero_add, Nat.min_eq_right h]
  apply ba_ext
  rw [Go.Lib.extract_data, List.drop_zero, Nat.sub_zero]
  exact List.take_of_length_le (by rw [← Go.Lib.size_eq]; omega)
theorem root_read : readE rootT 1 0 1 = 7 ∧ readT rootT 1 0 1 = ByteArray.empty := ⟨by kernel_rfl, by kernel_rfl⟩
theorem zero_name : nmOf 0 = ⟨#[48]⟩ ∧ pthOf 0 = ⟨#[47, 48]⟩ := by
  have h : nmOf 0 = ⟨#[48]⟩ := nmOf_lit (by decide)
  refine ⟨h, ?_⟩
  unfold pthOf
  rw [h]; rfl
theorem many_create : makeE rootT ⟨#[47, 48]⟩ = 0 ∧ makeK rootT ⟨#[47, 48]⟩ = 1 ∧ makeT rootT ⟨#[47, 48]⟩ false = TL [0] ByteArray.empty := by
  refine ⟨by kernel_rfl, by kernel_rfl, ?_⟩
  unfold TL dsOf
  rw [List.map_cons, zero_name.1]
  kernel_rfl
theorem many_write (h : s.size ≤ 100) : writeE (TL l ByteArray.empty) 1 0 s = 0 ∧ writeT (TL l ByteArray.empty) 1 0 s = TL l s := by
  obtain ⟨r1, r2⟩ := writeTS (ds := dsOf l) (x := ByteArray.empty) (names := l.length) (held := 0) (at' := 0) (s := s) (by omega) (by omega)
  refine ⟨r1, ?_⟩
  show writeT (TS (dsOf l) ByteArray.empty l.length 0) 1 0 s = _
  rw [r2]
  have hx : (if s.size = 0 then ByteArray.empty else writeB ByteArray.empty (0 : Int).toNat s) = s := by
    by_cases e : s.size = 0
    · rw [if_pos e, empty_of_size e]
    · rw [if_neg e]
      show writeB ByteArray.empty 0 s = s
      rw [writeB_empty]
      apply ba_ext
      rw [app_data]; rfl
  rw [hx]; rfl
end
end Go.Proofs.YtiohpmcedfbcgacGreatDoor
