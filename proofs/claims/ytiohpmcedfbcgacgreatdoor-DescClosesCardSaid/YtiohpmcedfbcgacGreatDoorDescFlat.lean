/- Several texts of ours in one, in build order (DescFlat, DescOpened). Conditions: each theorem's own premises. -/
import Derived.Test.YtiohpmcedfbcgacGreatDoorDescLaw
import Derived.Test.YtiohpmcedfbcgacGreatDoorTreeFlat
/- Files over a tree with one file, opened once or twice: plain. No program in sight. Conditions: each theorem's own premises. -/
namespace Go.Proofs.YtiohpmcedfbcgacGreatDoor
open Go.RowKit
set_option linter.unusedVariables false
def bX : ByteArray := ⟨#[47, 120]⟩
def nX : ByteArray := ⟨#[120]⟩
def DS0 : PS := ⟨rootT, [], []⟩
def DS1 (x : ByteArray) (a : Int) (r : Nat) : PS := ⟨TS [(nX, 1)] x 1 1, [(0, ⟨1, 3, 1, 0, a, r⟩)], []⟩
def DS2 (x : ByteArray) (a : Int) (r : Nat) (c : Int) : PS := ⟨TS [(nX, 1)] x 1 2, [(0, ⟨1, 3, 1, 0, a, r⟩), (1, ⟨1, 1, 1, 0, c, 1⟩)], []⟩
def L1 : PTab := tset noTab 0 (1, false)
def L2 : PTab := tset L1 1 (1, false)
def L3 : PTab := tset L2 2 (2, false)
def L0b : PTab := tset L2 0 (0, false)
section
variable {x s : ByteArray} {a c : Int} {r : Nat} {k : Int} {e : PE}
theorem ds1_get (h : mget (DS1 x a r).es k = some e) : k = 0 ∧ e = ⟨1, 3, 1, 0, a, r⟩ := by
  have hm := mem_of_mget h
  unfold DS1 at hm
  simp only [List.mem_cons, List.not_mem_nil, or_false, Prod.mk.injEq] at hm
  exact hm
theorem ds2_get (h : mget (DS2 x a r c).es k = some e) : (k = 0 ∧ e = ⟨1, 3, 1, 0, a, r⟩) ∨ (k = 1 ∧ e = ⟨1, 1, 1, 0, c, 1⟩) := by
  have hm := mem_of_mget h
  unfold DS2 at hm
  simp only [List.mem_cons, List.not_mem_nil, or_false, Prod.mk.injEq] at hm
  exact hm
theorem TS_get {names held : Nat} {ds : List (ByteArray × Int)} {n : Int} {p : PN} (h : mget (TS ds x names held) n = some p) : (n = 0 ∧ p = ⟨true, ds, ByteArray.empty, 1, 0⟩) ∨ (n = 1 ∧ p = ⟨false, [], x, names, held⟩) := by
  have hm := mem_of_mget h
  unfold TS at hm
  simp only [List.mem_cons, List.not_mem_nil, or_false, Prod.mk.injEq] at hm
  exact hm
theorem ds0_ok : DOk DS0 := by
  refine ⟨List.nodup_nil, fun k e h => (by cases h), fun k e h => (by cases h), Nat.zero_le _, fun k j e f h => (by cases h), fun i q h => (by cases h), fun n p h => ?_⟩
  have hm := mem_of_mget h
  have hm : (n, p) ∈ rootT := hm
  unfold rootT at hm
  simp only [List.mem_cons, List.not_mem_nil, or_false, Prod.mk.injEq] at hm
  rw [hm.2]; rfl
theorem ds1_ok (ha : 0 ≤ a ∧ a ≤ 200) (hr : 1 ≤ r ∧ r ≤ 1000) : DOk (DS1 x a r) := by
  refine ⟨by unfold MNodup DS1; simp, fun k e h => ?_, fun k e h => ?_, by unfold DS1; simp, fun k j e f h1 h2 h3 => ?_, fun i q h => ?_, fun n p h => ?_⟩
  · have := (ds1_get h).1; omega
  · obtain ⟨_, rfl⟩ := ds1_get h
    exact ⟨⟨hr.1, by show r ≤ 1000000; omega, ha.1, ha.2⟩, .inl ⟨rfl, (show (1 : Int) ≤ 3 by decide), (show (3 : Int) ≤ 3 by decide), _, TS1, rfl⟩⟩
  · obtain ⟨_, rfl⟩ := ds1_get h1
    exact absurd rfl h3
  · cases h
  · rcases TS_get h with ⟨rfl, rfl⟩ | ⟨rfl, rfl⟩
    · rfl
    · rfl
theorem ds2_ok (ha : 0 ≤ a ∧ a ≤ 200) (hr : 1 ≤ r ∧ r ≤ 1000) (hc : 0 ≤ c ∧ c ≤ 200) : DOk (DS2 x a r c) := by
  refine ⟨by unfold MNodup DS2; simp, fun k e h => ?_, fun k e h => ?_, by unfold DS2; simp, fun k j e f h1 h2 h3 => ?_, fun i q h => ?_, fun n p h => ?_⟩
  · rcases ds2_get h with ⟨h1, _⟩ | ⟨h1, _⟩ <;> omega
  · rcases ds2_get h with ⟨_, rfl⟩ | ⟨_, rfl⟩
    · exact ⟨⟨hr.1, by show r ≤ 1000000; omega, ha.1, ha.2⟩, .inl ⟨rfl, (show (1 : Int) ≤ 3 by decide), (show (3 : Int) ≤ 3 by decide), _, TS1, rfl⟩⟩
    · exact ⟨⟨by show 1 ≤ 1; decide, by show 1 ≤ 1000000; decide, hc.1, hc.2⟩, .inl ⟨rfl, (show (1 : Int) ≤ 1 by decide), (show (1 : Int) ≤ 3 by decide), _, TS1, rfl⟩⟩
  · rcases ds2_get h1 with ⟨_, rfl⟩ | ⟨_, rfl⟩ <;> exact absurd rfl h3
  · cases h
  · rcases TS_get h with ⟨rfl, rfl⟩ | ⟨rfl, rfl⟩
    · rfl
    · rfl
theorem tab_any {S : PS} {L : PTab} (h : ∀ i, i < 8 → (L i).1 = 0 ∨ (∃ e, mget S.es ((L i).1 - 1) = some e)) : TabOk S L := h
theorem tab1 : TabOk (DS1 x a r) L1 := fun i hi => by
  rcases (show i = 0 ∨ i = 1 ∨ i = 2 ∨ i = 3 ∨ i = 4 ∨ i = 5 ∨ i = 6 ∨ i = 7 by omega) with rfl | rfl | rfl | rfl | rfl | rfl | rfl | rfl
  all_goals first | exact .inl rfl | exact .inr ⟨_, rfl⟩
theorem tab2 : TabOk (DS1 x a r) L2 := fun i hi => by
  rcases (show i = 0 ∨ i = 1 ∨ i = 2 ∨ i = 3 ∨ i = 4 ∨ i = 5 ∨ i = 6 ∨ i = 7 by omega) with rfl | rfl | rfl | rfl | rfl | rfl | rfl | rfl
  all_goals first | exact .inl rfl | exact .inr ⟨_, rfl⟩
theorem tab2' : TabOk (DS2 x a r c) L2 := fun i hi => by
  rcases (show i = 0 ∨ i = 1 ∨ i = 2 ∨ i = 3 ∨ i = 4 ∨ i = 5 ∨ i = 6 ∨ i = 7 by omega) with rfl | rfl | rfl | rfl | rfl | rfl | rfl | rfl
  all_goals first | exact .inl rfl | exact .inr ⟨_, rfl⟩
theorem tab3 : TabOk (DS2 x a r c) L3 := fun i hi => by
  rcases (show i = 0 ∨ i = 1 ∨ i = 2 ∨ i = 3 ∨ i = 4 ∨ i = 5 ∨ i = 6 ∨ i = 7 by omega) with rfl | rfl | rfl | rfl | rfl | rfl | rfl | rfl
  all_goals first | exact .inl rfl | exact .inr ⟨_, rfl⟩
theorem tab0b : TabOk (DS2 x a r c) L0b := fun i hi => by
  rcases (show i = 0 ∨ i = 1 ∨ i = 2 ∨ i = 3 ∨ i = 4 ∨ i = 5 ∨ i = 6 ∨ i = 7 by omega) with rfl | rfl | rfl | rfl | rfl | rfl | rfl | rfl
  all_goals first | exact .inl rfl | exact .inr ⟨_, rfl⟩
theorem file1 : openE DS0 noTab bX 3 true = 0 ∧ openK DS0 noTab bX 3 true = 0 ∧ openS DS0 noTab bX 3 true = DS1 ByteArray.empty 0 1 ∧ openL DS0 noTab bX 3 true = L1 := by
  have h : openE DS0 noTab bX 3 true = 0 := by kernel_rfl
  refine ⟨h, by kernel_rfl, by kernel_rfl, ?_⟩
  unfold openL
  rw [if_pos h]
  have h1 : (leastL noTab).toNat = 0 := by kernel_rfl
  have h2 : freeE DS0.es = 0 := by kernel_rfl
  rw [h1, h2]; rfl
theorem file2 : openE (DS1 x a r) L2 bX 1 false = 0 ∧ openK (DS1 x a r) L2 bX 1 false = 2 ∧ openS (DS1 x a r) L2 bX 1 false = DS2 x a r 0 ∧ openL (DS1 x a r) L2 bX 1 false = L3 := by
  have h : openE (DS1 x a r) L2 bX 1 false = 0 := by kernel_rfl
  refine ⟨h, by kernel_rfl, by kernel_rfl, ?_⟩
  unfold openL
  rw [if_pos h]
  have h1 : (leastL L2).toNat = 2 := by kernel_rfl
  have h2 : freeE (DS1 x a r).es = 1 := by kernel_rfl
  rw [h1, h2]; rfl
theorem dup1 : dupE (DS1 x a r) L1 0 = 0 ∧ dupK (DS1 x a r) L1 0 = 1 ∧ dupS (DS1 x a r) L1 0 = DS1 x a (r + 1) ∧ dupL (DS1 x a r) L1 0 = L2 := by
  have h : dupE (DS1 x a r) L1 0 = 0 := by kernel_rfl
  refine ⟨h, by kernel_rfl, by kernel_rfl, ?_⟩
  unfold dupL
  rw [if_pos h]
  have h1 : (leastL L1).toNat = 1 := by kernel_rfl
  rw [h1]; rfl
theorem fork2 : forkS (DS1 x a r) L2 = DS1 x a (r + 2) := by kernel_rfl
theorem ent0 : entL (DS1 x a r) L2 0 = some (0, ⟨1, 3, 1, 0, a, r⟩) := by kernel_rfl
theorem ent1 : entL (DS1 x a r) L2 1 = some (0, ⟨1, 3, 1, 0, a, r⟩) := by kernel_rfl
theorem ent20 : entL (DS2 x a r c) L2 0 = some (0, ⟨1, 3, 1, 0, a, r⟩) := by kernel_rfl
theorem ent21 : entL (DS2 x a r c) L2 1 = some (0, ⟨1, 3, 1, 0, a, r⟩) := by kernel_rfl
theorem ent31 : entL (DS2 x a r c) L3 1 = some (0, ⟨1, 3, 1, 0, a, r⟩) := by kernel_rfl
theorem ent32 : entL (DS2 x a r c) L3 2 = some (1, ⟨1, 1, 1, 0, c, 1⟩) := by kernel_rfl
theorem app_all (x : ByteArray) : x.extract 0 x.size = x := by
  apply ba_ext
  rw [Go.Lib.extract_data, List.drop_zero, Nat.sub_zero]
  exact List.take_of_length_le (by rw [← Go.Lib.size_eq]; omega)
theorem writeB_app (x s : ByteArray) : (if s.size = 0 then x else writeB x x.size s) = x ++ s := by
  by_cases h : s.size = 0
  · rw [if_pos h]
    apply ba_ext
    rw [app_data, empty_of h]
    simp
  · rw [if_neg h]
    have hp : padB x x.size = x := if_neg (Nat.lt_irrefl _)
    unfold writeB putB
    rw [hp, Nat.min_eq_right (by omega), app_all]
    apply ba_ext
    rw [app_data, app_data, Go.Lib.extract_data, Nat.sub_self, List.take_zero, List.append_nil]
/-- A number's write at the file's end. -/
theorem write_end {n : Int} (hn : entL (DS1 x a r) L2 n = some (0, ⟨1, 3, 1, 0, a, r⟩)) (ha : a = x.size) (hs : x.size + s.size ≤ 100) :
    wrE (DS1 x a r) L2 n s 100 = 0 ∧ wrK (DS1 x a r) L2 n s 100 = s.size ∧ wrS (DS1 x a r) L2 n s 100 = DS1 (x ++ s) (a + s.size) r := by
  have hl : limB ⟨1, 3, 1, 0, a, r⟩ s 100 = false := by
    unfold limB
    exact decide_eq_false (fun h => by
      have h2 : (100 : Int) < s.size ∨ (100 : Int) - s.size < a := h.2
      omega)
  obtain ⟨hE, hT⟩ := writeTS (ds := [(nX, 1)]) (x := x) (s := s) (names := 1) (held := 1) (at' := a) (by omega) (by omega)
  have hE' : writeE (DS1 x a r).T 1 a s = 0 := hE
  have hT' : writeT (DS1 x a r).T 1 a s = TS [(nX, 1)] (x ++ s) 1 1 := by
    rw [← writeB_app x s, show x.size = a.toNat by omega]; exact hT
  refine ⟨?_, ?_, ?_⟩
  · unfold wrE
    rw [hn]
    show (if limB ⟨1, 3, 1, 0, a, r⟩ s 100 = true then (4 : Int) else writeE (DS1 x a r).T 1 a s) = 0
    rw [hl, hE']; rfl
  · unfold wrK
    rw [hn]
    show (if limB ⟨1, 3, 1, 0, a, r⟩ s 100 = true then (0 : Int) else if writeE (DS1 x a r).T 1 a s = 0 then (s.size : Int) else 0) = s.size
    rw [hl, hE']; rfl
  · unfold wrS
    rw [hn]
    show (if limB ⟨1, 3, 1, 0, a, r⟩ s 100 = true then DS1 x a r else if writeE (DS1 x a r).T 1 a s = 0 then putS (treeS (DS1 x a r) (writeT (DS1 x a r).T 1 a s)) 0 { kind := 1, prot := 3, node := 1, pid := 0, at' := a + s.size, refs := r } else DS1 x a r) = DS1 (x ++ s) (a + s.size) r
    rw [hl, hE', hT']; rfl
theorem readB_from (x : ByteArray) (c m : Nat) (hm : x.size ≤ m) : readB x c m = x.extract (min c x.size) x.size := by
  unfold readB
  congr 1
  omega
theorem read2 {L : PTab} {n : Int} {k : Int} {e : PE} (hn : entL (DS2 x a r c) L n = some (k, e)) (hk : e.kind = 1) (hp : e.prot ≠ 2) (hnode : e.node = 1) (h0 : 0 ≤ e.at') (hx : x.size ≤ 100) :
    rdE (DS2 x a r c) L n 100 = 0 ∧ rdB (DS2 x a r c) L n 100 = x.extract (min e.at'.toNat x.size) x.size ∧ rdS (DS2 x a r c) L n 100 = putS (DS2 x a r c) k { e with at' := e.at' + (x.extract (min e.at'.toNat x.size) x.size).size } := by
  obtain ⟨hE, hT⟩ := readTS (ds := [(nX, 1)]) (x := x) (names := 1) (held := 2) (at' := e.at') (many := 100) h0 (by decide)
  rw [show (100 : Int).toNat = 100 from rfl, readB_from x _ 100 hx] at hT
  have hE' : readE (DS2 x a r c).T e.node e.at' 100 = 0 := by rw [hnode]; exact hE
  have hT' : readT (DS2 x a r c).T e.node e.at' 100 = x.extract (min e.at'.toNat x.size) x.size := by rw [hnode]; exact hT
  refine ⟨?_, ?_, ?_⟩
  · unfold rdE
    rw [hn]
    refine Eq.trans (if_neg hp) (Eq.trans (if_neg (show ¬ e.kind = 2 by omega)) hE')
  · unfold rdB
    rw [hn]
    refine Eq.trans (if_neg hp) (Eq.trans (if_neg (show ¬ e.kind = 2 by omega)) hT')
  · unfold rdS
    rw [hn]
    refine Eq.trans (if_neg hp) (Eq.trans (if_neg (show ¬ e.kind = 2 by omega)) ?_)
    show putS (DS2 x a r c) k { e with at' := e.at' + (readT (DS2 x a r c).T e.node e.at' 100).size } = _
    rw [hT']
theorem put20 (v : Int) : putS (DS2 x a r c) 0 ⟨1, 3, 1, 0, v, r⟩ = DS2 x v r c := by kernel_rfl
theorem put21 (v : Int) : putS (DS2 x a r c) 1 ⟨1, 1, 1, 0, v, 1⟩ = DS2 x a r v := by kernel_rfl
theorem write32 (s : ByteArray) : wrE (DS2 x a r c) L3 2 s 100 = 13 ∧ wrS (DS2 x a r c) L3 2 s 100 = DS2 x a r c := ⟨by kernel_rfl, by kernel_rfl⟩
theorem wrK32 (s : ByteArray) : wrK (DS2 x a r c) L3 2 s 100 = 0 := by kernel_rfl
theorem seek20 {v : Int} (h : 0 ≤ v ∧ v ≤ 200) : seekE (DS2 x a r c) L2 0 v = 0 ∧ seekS (DS2 x a r c) L2 0 v = DS2 x v r c := by
  have hE : seekE (DS2 x a r c) L2 0 v = 0 := by
    unfold seekE
    rw [ent20]
    show (if (1 : Int) ≠ 1 then (6 : Int) else if v < 0 ∨ 200 < v then 2 else 0) = 0
    rw [if_neg (by simp), if_neg (by omega)]
  refine ⟨hE, ?_⟩
  unfold seekS
  rw [if_pos hE, ent20]
  exact put20 v
theorem seek1 {v : Int} (h : 0 ≤ v ∧ v ≤ 200) : seekE (DS1 x a r) L2 1 v = 0 ∧ seekS (DS1 x a r) L2 1 v = DS1 x v r := by
  have hE : seekE (DS1 x a r) L2 1 v = 0 := by
    unfold seekE
    rw [ent1]
    show (if (1 : Int) ≠ 1 then (6 : Int) else if v < 0 ∨ 200 < v then 2 else 0) = 0
    rw [if_neg (by simp), if_neg (by omega)]
  refine ⟨hE, ?_⟩
  unfold seekS
  rw [if_pos hE, ent1]
  rfl
theorem close20 (h : 1 < r) : closeE (DS2 x a r c) L2 0 = 0 ∧ closeS (DS2 x a r c) L2 0 = DS2 x a (r - 1) c ∧ closeL (DS2 x a r c) L2 0 = L0b := by
  refine ⟨?_, ?_, ?_⟩
  · unfold closeE
    rw [ent20]
    exact if_pos h
  · unfold closeS
    rw [ent20]
    exact (if_pos h).trans (by kernel_rfl)
  · unfold closeL
    rw [ent20]; rfl
theorem has0b : (slotL L0b 1).isSome = true ∧ (slotL L0b 0).isSome = false := ⟨by kernel_rfl, by kernel_rfl⟩
end
end Go.Proofs.YtiohpmcedfbcgacGreatDoor
/- The laws' own fact 'opened': a file that is written, and read by another number. Condition: errors.errorType holds what is laid. -/
namespace Go.Proofs.YtiohpmcedfbcgacGreatDoor
open Go.RowKit
set_option linter.unusedVariables false
def bHello : ByteArray := ⟨#[104, 101, 108, 108, 111]⟩
theorem terr0 : TErr 0 = .nilIface := rfl
theorem empty_app (s : ByteArray) : ByteArray.empty ++ s = s := by
  apply ba_ext
  rw [app_data]; rfl
set_option maxHeartbeats 4000000 in
set_option maxRecDepth 100000 in
theorem opened_is (W : World) (hL : Laid W) : Calls Tryz.prog 40 #[] W fun e w' => e = .returned (.bool true) ∧ Turn (fun _ => False) W w' := by
  have HL := hid hL
  clear hL
  go_enter Tryz.func40, Tryz.ntmps40
  go_wp2_with fail
  refine (law_new W).mono ?_
  rintro e w1 ⟨tb, rfl, h1⟩
  have H1 := hid h1
  clear h1
  go_wp2_with fail
  refine (law_dnew H1.out).mono ?_
  rintro e w2 ⟨fb, rfl, h2⟩
  have H2 := hid h2.table
  clear h2
  obtain ⟨ta, hta⟩ : ∃ ta, w2.heap.size = ta := ⟨_, rfl⟩
  have HTa := hid hta
  clear hta
  go_wp2_with fail
  refine (law_file (S := DS0) (L := noTab) (tab := w2.heap.size) (ts := [(w2.heap.size, noTab)]) (i := 0) H2.out ds0_ok rfl (laidB_of HL.out) bX (by decide) 3 true).mono ?_
  rintro e w3 ⟨rfl, h3⟩
  rw [file1.1, file1.2.1, terr0]
  rw [file1.2.2.1, file1.2.2.2] at h3
  have H3 := hid h3
  clear h3
  go_wp2_with fail
  refine (law_dup (S := DS1 ByteArray.empty 0 1) (L := L1) (tab := w2.heap.size) (ts := [(w2.heap.size, L1)]) (i := 0) H3.out (ds1_ok (by decide) (by decide)) rfl tab1 0 (fun k e he => by rw [(ds1_get he).2]; show 1 < 1000000; decide)).mono ?_
  rintro e w4 ⟨rfl, h4⟩
  rw [dup1.1, dup1.2.1, terr0]
  rw [dup1.2.2.1, dup1.2.2.2] at h4
  have H4 := hid h4
  clear h4
  go_wp2_with fail
  refine (law_dwrite (S := DS1 ByteArray.empty 0 2) (L := L2) (tab := w2.heap.size) (ts := [(w2.heap.size, L2)]) (i := 0) H4.out (ds1_ok (by decide) (by decide)) rfl tab2 0 bHello (by decide) 100 (by decide) (by decide)).mono ?_
  rintro e w5 ⟨rfl, h5⟩
  have hwr := write_end (x := ByteArray.empty) (a := 0) (r := 2) (s := bHello) (n := 0) ent0 rfl (by decide)
  rw [hwr.1, hwr.2.1, terr0]
  rw [hwr.2.2] at h5
  have H5 := hid h5
  clear h5 hwr
  have hsz : ((bHello.size : Nat) : Int) = 5 := rfl
  rw [hsz]
  clear hsz
  go_wp2_with fail
  refine (law_seek (S := DS1 (ByteArray.empty ++ bHello) (0 + (bHello.size : Nat)) 2) (L := L2) (tab := w2.heap.size) (ts := [(w2.heap.size, L2)]) (i := 0) H5.out rfl tab2 1 1).mono ?_
  rintro e w6 ⟨rfl, h6⟩
  rw [(seek1 (by decide)).1, terr0]
  rw [(seek1 (by decide)).2] at h6
  have H6 := hid h6
  clear h6
  go_wp2_with fail
  refine (law_open H6.out).mono ?_
  rintro e w7 ⟨rfl, rfl⟩
  have hlen : ((DS1 (ByteArray.empty ++ bHello) 1 2).es.length : Int) = 1 := rfl
  rw [hlen]
  go_wp2_with fail
  go_ret
  exact ⟨rfl, H6.out.turn0⟩
end Go.Proofs.YtiohpmcedfbcgacGreatDoor
