/- A tree with one file alone, and names for it in the directory of all: plain. No program in sight. Conditions: each theorem's own premises. -/
import Derived.Test.YtiohpmcedfbcgacGreatDoorTreeNew
import Derived.Test.YtiohpmcedfbcgacGreatDoorTreeHold
import Derived.Test.YtiohpmcedfbcgacGreatDoorTreeBytes
namespace Go.Proofs.YtiohpmcedfbcgacGreatDoor
open Go.RowKit
set_option linter.unusedVariables false

/-- The directory of all, and the file 1. -/
def TS (ds : List (ByteArray × Int)) (x : ByteArray) (names held : Nat) : PT := [(0, ⟨true, ds, ByteArray.empty, 1, 0⟩), (1, ⟨false, [], x, names, held⟩)]
section
variable {ds : List (ByteArray × Int)} {x y : ByteArray} {names held c : Nat} {l : List ByteArray} {path s : ByteArray}
theorem TS0 : mget (TS ds x names held) 0 = some ⟨true, ds, ByteArray.empty, 1, 0⟩ := rfl
theorem TS1 : mget (TS ds x names held) 1 = some ⟨false, [], x, names, held⟩ := rfl
theorem walkTS1 (hds : ∀ e ∈ ds, e.2 = 1) (s : ByteArray) : walkT (TS ds x names held) 0 [s] = (mget ds s).elim (7, 0) fun _ => (0, 1) := by
  cases hs : mget ds s with
  | none => exact walkT_miss TS0 rfl hs []
  | some m =>
    have hm : m = 1 := hds (s, m) (mem_of_mget hs)
    rw [walkT_hit TS0 rfl hs, hm]; rfl
theorem walkTS2 (hds : ∀ e ∈ ds, e.2 = 1) (s t : ByteArray) (l : List ByteArray) : walkT (TS ds x names held) 0 (s :: t :: l) = (mget ds s).elim (7, 0) fun _ => (6, 0) := by
  cases hs : mget ds s with
  | none => exact walkT_miss TS0 rfl hs _
  | some m =>
    have hm : m = 1 := hds (s, m) (mem_of_mget hs)
    rw [walkT_hit TS0 rfl hs, hm]
    exact walkT_file TS1 rfl t l
theorem walkRoot : ∀ l : List ByteArray, walkT rootT 0 l = if l = [] then (0, 0) else (7, 0)
  | [] => rfl
  | s :: l => by
    rw [if_neg (by simp)]
    exact walkT_miss (p := ⟨true, [], ByteArray.empty, 1, 0⟩) rfl rfl rfl l
theorem placeTS (hds : ∀ e ∈ ds, e.2 = 1) (path : ByteArray) : (∃ z, z ≠ 0 ∧ placeT (TS ds x names held) path = (z, 0, ByteArray.empty)) ∨ ∃ s, namesOf path = some [s] ∧ placeT (TS ds x names held) path = (0, 0, s) := by
  cases hn : namesOf path with
  | none => exact .inl ⟨1, by decide, placeT_none hn⟩
  | some l =>
    match l, hn with
    | [], hn => exact .inl ⟨1, by decide, placeT_root hn⟩
    | [s], hn => exact .inr ⟨s, rfl, placeT_dir hn (by simp) rfl rfl⟩
    | [s, t], hn =>
      have hw := walkTS1 (x := x) (names := names) (held := held) hds s
      cases hs : mget ds s with
      | none =>
        simp only [hs, Option.elim] at hw
        exact .inl ⟨7, by decide, placeT_err hn (by simp) hw (by decide)⟩
      | some m =>
        simp only [hs, Option.elim] at hw
        exact .inl ⟨6, by decide, placeT_file hn (by simp) hw rfl⟩
    | s :: t :: u :: l, hn =>
      have hw := walkTS2 (x := x) (names := names) (held := held) hds s t (u :: l).dropLast
      cases hs : mget ds s with
      | none =>
        simp only [hs, Option.elim] at hw
        exact .inl ⟨7, by decide, placeT_err hn (by simp) (by simpa using hw) (by decide)⟩
      | some m =>
        simp only [hs, Option.elim] at hw
        exact .inl ⟨6, by decide, placeT_err hn (by simp) (by simpa using hw) (by decide)⟩
theorem placeTS_one (hn : namesOf path = some [s]) : placeT (TS ds x names held) path = (0, 0, s) := placeT_dir hn (by simp) rfl rfl
theorem placeRoot (path : ByteArray) : (∃ z, z ≠ 0 ∧ placeT rootT path = (z, 0, ByteArray.empty)) ∨ ∃ s, namesOf path = some [s] ∧ placeT rootT path = (0, 0, s) := by
  cases hn : namesOf path with
  | none => exact .inl ⟨1, by decide, placeT_none hn⟩
  | some l =>
    match l, hn with
    | [], hn => exact .inl ⟨1, by decide, placeT_root hn⟩
    | [s], hn => exact .inr ⟨s, rfl, placeT_dir hn (by simp) rfl rfl⟩
    | s :: t :: l, hn =>
      have hw := walkRoot (s :: (t :: l).dropLast)
      rw [if_neg (by simp)] at hw
      exact .inl ⟨7, by decide, placeT_err hn (by simp) (by simpa using hw) (by decide)⟩
theorem findTS (hds : ∀ e ∈ ds, e.2 = 1) (hn : namesOf path = some [s]) : findT (TS ds x names held) path = (mget ds s).elim (7, 0) fun _ => (0, 1) := by
  rw [findT_some hn]
  exact walkTS1 hds s
/-- A file is made where there is none yet. -/
theorem createRoot (path : ByteArray) : (makeE rootT path ≠ 0 ∧ makeT rootT path false = rootT) ∨ ∃ s, namesOf path = some [s] ∧ makeE rootT path = 0 ∧ makeK rootT path = 1 ∧ makeT rootT path false = TS [(s, 1)] ByteArray.empty 1 0 := by
  rcases placeRoot path with ⟨z, hz, hp⟩ | ⟨s, hn, hp⟩
  · have hE : makeE rootT path = z := by
      unfold makeE
      rw [hp, if_pos hz]
    exact .inl ⟨by rw [hE]; exact hz, if_neg (by rw [hE]; exact hz)⟩
  · have hE : makeE rootT path = 0 := by
      unfold makeE
      rw [hp]
      rfl
    have hF : freeT rootT = 1 := by kernel_rfl
    refine .inr ⟨s, hn, hE, by rw [makeK_ok hE, hF]; rfl, ?_⟩
    unfold makeT
    rw [if_pos hE, hp, hF]
    rfl
theorem holdTS : fileE (TS ds x names held) 1 = 0 ∧ holdT (TS ds x names held) 1 = TS ds x names (held + 1) := ⟨rfl, rfl⟩
theorem writeTS {at' : Int} (h0 : 0 ≤ at') (h : at' + s.size ≤ 200) : writeE (TS ds x names held) 1 at' s = 0 ∧ writeT (TS ds x names held) 1 at' s = TS ds (if s.size = 0 then x else writeB x at'.toNat s) names held := by
  have hE : writeE (TS ds x names held) 1 at' s = 0 := by
    unfold writeE
    rw [if_neg (by simp [holdTS.1]), if_neg (by omega), if_neg (by omega)]
  refine ⟨hE, ?_⟩
  unfold writeT
  by_cases e : s.size = 0
  · rw [if_pos e, if_neg (fun h => h.2 e)]
  · rw [if_neg e, if_pos ⟨hE, e⟩]; rfl
theorem linkTS (hds : ∀ e ∈ ds, e.2 = 1) (hn : namesOf path = some [s]) (hs : (mget ds s).isSome = true) (other : ByteArray) :
    (linkE (TS ds x names held) path other ≠ 0 ∧ linkT (TS ds x names held) path other = TS ds x names held) ∨ ∃ s2, namesOf other = some [s2] ∧ mget ds s2 = none ∧ linkE (TS ds x names held) path other = 0 ∧ linkT (TS ds x names held) path other = TS (mput ds s2 1) x (names + 1) held := by
  obtain ⟨m, hm⟩ := Option.isSome_iff_exists.1 hs
  have hf : findT (TS ds x names held) path = (0, 1) := by rw [findTS hds hn, hm]; rfl
  rcases placeTS (x := x) (names := names) (held := held) hds other with ⟨z, hz, hp⟩ | ⟨s2, hn2, hp⟩
  · have hE : linkE (TS ds x names held) path other = z := by
      unfold linkE
      rw [hf, hp, if_neg (by simp), if_neg (by simp [isDirT, TS1]), if_pos hz]
    exact .inl ⟨by rw [hE]; exact hz, if_neg (by rw [hE]; exact hz)⟩
  · have hE : linkE (TS ds x names held) path other = if (mget ds s2).isSome then 9 else 0 := by
      unfold linkE
      rw [hf, hp, if_neg (by simp), if_neg (by simp [isDirT, TS1]), if_neg (by simp)]
      rfl
    cases h2 : mget ds s2 with
    | some m2 =>
      replace hE : linkE (TS ds x names held) path other = 9 := by rw [hE, h2]; rfl
      exact .inl ⟨by rw [hE]; decide, if_neg (by rw [hE]; decide)⟩
    | none =>
      replace hE : linkE (TS ds x names held) path other = 0 := by rw [hE, h2]; rfl
      refine .inr ⟨s2, hn2, h2, hE, ?_⟩
      unfold linkT
      rw [if_pos hE, hf, hp]
      rfl
theorem unlinkTS (hds : ∀ e ∈ ds, e.2 = 1) (hn : namesOf path = some [s]) (hs : (mget ds s).isSome = true) : unlinkE (TS ds x names held) path = 0 ∧ unlinkT (TS ds x names held) path = goneT (TS (mdel ds s) x (names - 1) held) 1 ⟨false, [], x, names - 1, held⟩ := by
  obtain ⟨m, hm⟩ := Option.isSome_iff_exists.1 hs
  have hm1 : m = 1 := hds (s, m) (mem_of_mget hm)
  subst hm1
  have hp := placeTS_one (ds := ds) (x := x) (names := names) (held := held) hn
  have hd : dsT (TS ds x names held) 0 = ds := rfl
  have hd1 : dsT (TS ds x names held) 1 = [] := rfl
  have hE : unlinkE (TS ds x names held) path = 0 := by
    unfold unlinkE
    rw [hp, if_neg (by simp)]
    simp only [hd, hm, Option.elim, hd1]
    rfl
  refine ⟨hE, ?_⟩
  unfold unlinkT
  rw [if_pos hE, hp]
  simp only [hd, hm, Option.elim, TS1]
  rfl
theorem goneTS_held (h : held ≠ 0) : goneT (TS ds x names held) 1 ⟨false, [], x, names, held⟩ = TS ds x names held := if_neg (fun e => h e.2)
theorem goneTS_named (h : names ≠ 0) : goneT (TS ds x names held) 1 ⟨false, [], x, names, held⟩ = TS ds x names held := if_neg (fun e => h e.1)
theorem goneTS : goneT (TS [] x 0 0) 1 ⟨false, [], x, 0, 0⟩ = rootT := rfl
theorem dropTS : dropE (TS [] x 0 1) 1 = 0 ∧ dropT (TS [] x 0 1) 1 = rootT := ⟨rfl, rfl⟩
theorem readTS {at' many : Int} (h0 : 0 ≤ at') (h1 : 0 ≤ many) : readE (TS ds x names held) 1 at' many = 0 ∧ readT (TS ds x names held) 1 at' many = readB x at'.toNat many.toNat := by
  have hE : readE (TS ds x names held) 1 at' many = 0 := by
    unfold readE
    rw [if_neg (by simp [holdTS.1]), if_neg (by omega)]
  refine ⟨hE, ?_⟩
  unfold readT
  rw [if_pos hE]
  rfl
theorem TS_bounds (h : ds.length < 1000) (h2 : names < 1000) (h3 : held < 1000) : ∀ n p, mget (TS ds x names held) n = some p → p.names < 1000000 ∧ p.ds.length < 1000000 ∧ p.held < 1000000 := fun n p hp => by
  have hm := mem_of_mget hp
  unfold TS at hm
  simp only [List.mem_cons, List.not_mem_nil, or_false, Prod.mk.injEq] at hm
  rcases hm with ⟨_, rfl⟩ | ⟨_, rfl⟩
  · exact ⟨by simp, by simp only; omega, by simp⟩
  · exact ⟨by simp only; omega, by simp, by simp only; omega⟩
/-! ### bytes -/
theorem ba_ext {a b : ByteArray} (h : a.data.toList = b.data.toList) : a = b := by
  rw [← Go.Lib.mk_data a, ← Go.Lib.mk_data b, h]
theorem app_data (a b : ByteArray) : (a ++ b).data.toList = a.data.toList ++ b.data.toList := by simp
theorem writeB_empty (a : Nat) (s : ByteArray) : writeB ByteArray.empty a s = zerosB a ++ s := by
  have hp : padB ByteArray.empty a = zerosB a := by
    unfold padB
    by_cases h : ByteArray.empty.size < a
    · rw [if_pos h]
      apply ba_ext
      rw [app_data]; rfl
    · have h0 : a = 0 := by
        have : ByteArray.empty.size = 0 := rfl
        omega
      rw [if_neg h, h0]; rfl
  unfold writeB putB
  rw [hp]
  have hz := zerosB_size a
  apply ba_ext
  rw [app_data, app_data, app_data, Go.Lib.extract_data, Go.Lib.extract_data, hz]
  have hl : (zerosB a).data.toList.length = a := by rw [← Go.Lib.size_eq]; exact hz
  rw [List.drop_zero, Nat.sub_zero, List.take_of_length_le (by omega), Nat.min_eq_right (by omega), Nat.sub_self, List.take_zero, List.append_nil]
theorem readB_behind (a : Nat) (s : ByteArray) : readB (zerosB a ++ s) a s.size = s := by
  unfold readB
  have hz := zerosB_size a
  have hl : (zerosB a).data.toList.length = a := by rw [← Go.Lib.size_eq]; exact hz
  have hsz : (zerosB a ++ s).size = a + s.size := by rw [append_size, hz]
  rw [hsz, Nat.min_eq_left (by omega)]
  apply ba_ext
  rw [Go.Lib.extract_data, app_data, List.drop_left' hl]
  apply List.take_of_length_le
  rw [← Go.Lib.size_eq]
  omega
theorem readB_ahead (a : Nat) (s : ByteArray) : readB (zerosB a ++ s) 0 a = zerosB a := by
  unfold readB
  have hz := zerosB_size a
  have hl : (zerosB a).data.toList.length = a := by rw [← Go.Lib.size_eq]; exact hz
  have hsz : (zerosB a ++ s).size = a + s.size := by rw [append_size, hz]
  rw [hsz, Nat.zero_min, Nat.sub_zero, Nat.zero_add, Nat.min_eq_left (by omega)]
  apply ba_ext
  rw [Go.Lib.extract_data, app_data, List.drop_zero, Nat.sub_zero, List.take_left' hl]
theorem readB_empty (a m : Nat) : readB ByteArray.empty a m = ByteArray.empty := by
  apply empty_of_size
  unfold readB
  have h0 : ByteArray.empty.size = 0 := rfl
  rw [h0, extract_size _ _ _ (by rw [h0]; omega)]
  omega
end
end Go.Proofs.YtiohpmcedfbcgacGreatDoor
