/- TreeLinks walked: true, and nothing that was there turns. Conditions: the two laid variables; the argument lies in memory. -/
import Derived.Test.YtiohpmcedfbcgacGreatDoorTreeMany
import Derived.Test.YtiohpmcedfbcgacGreatDoorTreeRow
import Derived.Test.YtiohpmcedfbcgacGreatDoorRowSpread
import Derived.Test.YtiohpmcedfbcgacGreatDoorTreeNamed
import Derived.Test.YtiohpmcedfbcgacGreatDoorPick
import Derived.Test.YtiohpmcedfbcgacGreatDoorTell
import Derived.Test.YtiohpmcedfbcgacGreatDoorItoaText
namespace Go.Proofs.YtiohpmcedfbcgacGreatDoor
open Go.RowKit
set_option linter.unusedVariables false

def strV (l : List Nat) : List Value := l.map fun i => .string (pthOf i)
/-- The names that there are ahead of a round. -/
def rgN (k : Nat) : List Nat := if k = 0 then [0] else List.range k
/-- The numbers lie in memory. -/
def NumsIn (w : World) (a : Option Addr) (l : List Int) : Prop := l = [] ∨ ∃ g off, a = some ⟨g, off, none⟩ ∧ g < w.heap.size ∧ ∀ (j : Nat) s, l[j]? = some s → w.cell? ⟨g, off + j, none⟩ = some (.int .i64 s)
theorem NumsIn.turned {w w' : World} {a : Option Addr} {l : List Int} (h : NumsIn w a l) (t : Turn (fun _ => False) w w') : NumsIn w' a l := by
  rcases h with h | ⟨g, off, rfl, hg, hc⟩
  · exact .inl h
  · exact .inr ⟨g, off, rfl, Nat.lt_of_lt_of_le hg t.size, fun j s hs => (t.cell (a := ⟨g, off + j, none⟩) hg id).trans (hc j s hs)⟩
theorem strV_len (l : List Nat) : (strV l).length = l.length := List.length_map _
theorem strV_next (k : Nat) : strV (List.range (k + 1)) = strV (List.range k) ++ [Value.string (pthOf k)] := by
  unfold strV
  rw [List.range_succ, List.map_append]; rfl
theorem rowv_alloc {w : World} {e : TypeId} {v : Value} {xs : List Value} (h : RowV w e v xs) (o : Obj) : RowV (w.alloc o) e v xs := h.turned ((Turn.refl _ _).alloc _) (fun _ _ => id)
theorem tl_bound {l : List Nat} {s : ByteArray} (h : l.length < 1000) : ∀ n p, mget (TL l s) n = some p → p.names < 1000000 := fun n p hp => (TS_bounds (by unfold dsOf; rw [List.length_map]; exact h) h (by decide) n p hp).1
theorem tl_bound2 {l : List Nat} {s : ByteArray} (h : l.length < 1000) : ∀ n p, mget (TL l s) n = some p → p.names < 1000000 ∧ p.ds.length < 1000000 := fun n p hp => by
  have := TS_bounds (by unfold dsOf; rw [List.length_map]; exact h) h (by decide) n p hp
  exact ⟨this.1, this.2.1⟩
theorem links_next {W0 w8 w9 : World} {tb : Nat} {T : PT} {v : Value} {k : Nat} {Y : ByteArray} {g3 z3 : Nat} (h : TreeRow W0 w8 tb T v (strV (List.range k))) (hY : Y = pthOf k)
    (h1 : RowV w9 9 (.slice (some ⟨g3, 0, none⟩) ((strV (List.range k)).length + 1) z3) (strV (List.range k) ++ [.string Y])) (t3 : Turn (fun j => v.ownBlock = some j) (w8.alloc (.cells #[.string Y] 9)) w9)
    (h3 : v.ownBlock = some g3 ∨ (w8.alloc (.cells #[.string Y] 9)).heap.size ≤ g3) : TreeRow W0 w9 tb T (.slice (some ⟨g3, 0, none⟩) ((strV (List.range k)).length + 1) z3) (strV (List.range (k + 1))) := by
  have e : strV (List.range (k + 1)) = strV (List.range k) ++ [Value.string Y] := by rw [strV_next, hY]
  have l : (strV (List.range k)).length + 1 = (strV (List.range k) ++ [Value.string Y]).length := by simp
  rw [l] at h1 ⊢
  rw [e]
  exact (h.still ((Turn.refl _ _).alloc _)).app h1 t3 h3
/-- The file with the names that are left, or nothing. -/
def leftT (L : List Nat) (s : ByteArray) : PT := if L = [] then rootT else TL L s
theorem row_cell {W0 w : World} {tb : Nat} {T : PT} {g cap m x : Nat} {L : List Nat} (h : TreeRow W0 w tb T (.slice (some ⟨g, 0, none⟩) L.length cap) (strV L)) (hm : L[m]? = some x) : w.cell? ⟨g, m, none⟩ = some (.string (pthOf x)) := by
  have h2 := h.row
  rw [← strV_len] at h2
  exact h2.cell m _ (by unfold strV; rw [List.getElem?_map, hm]; rfl)
theorem left_unlink {L : List Nat} {s : ByteArray} {k x : Nat} (hl : ∀ j ∈ L, j < 20) (hk : L[k]? = some x) (hd : L.Nodup) : unlinkE (TL L s) (pthOf x) = 0 ∧ unlinkT (TL L s) (pthOf x) = leftT (L.take k ++ L.drop (k + 1)) s ∧
    unlinkE (leftT (L.take k ++ L.drop (k + 1)) s) (pthOf x) = 7 ∧ unlinkT (leftT (L.take k ++ L.drop (k + 1)) s) (pthOf x) = leftT (L.take k ++ L.drop (k + 1)) s := by
  obtain ⟨u1, u2⟩ := tl_unlink (s := s) hl hk hd
  obtain ⟨hf, hn⟩ := cut_list hk hd
  have hkl := (List.getElem?_eq_some_iff.1 hk).1
  have hx := hl x (List.mem_of_getElem? hk)
  have hlen : (L.take k ++ L.drop (k + 1)).length = L.length - 1 := by rw [List.length_append, List.length_take, List.length_drop]; omega
  have hle : unlinkT (TL L s) (pthOf x) = leftT (L.take k ++ L.drop (k + 1)) s := by
    rw [u2]
    unfold leftT
    by_cases h1 : L.length = 1
    · rw [if_pos h1, if_pos (List.eq_nil_of_length_eq_zero (by omega))]
    · rw [if_neg h1, if_neg (fun h => by rw [h] at hlen; simp only [List.length_nil] at hlen; omega)]
  refine ⟨u1, hle, ?_⟩
  unfold leftT
  by_cases h0 : L.take k ++ L.drop (k + 1) = []
  · rw [if_pos h0]; exact root_again hx
  · rw [if_neg h0]; exact tl_again (fun j hj => hl j (by rw [← hf] at hj; exact (List.mem_filter.1 hj).1)) hx hn
theorem left_bound {L : List Nat} {s : ByteArray} (h : L.length < 1000) : ∀ n p, mget (leftT L s) n = some p → p.names < 1000000 ∧ p.ds.length < 1000000 := by
  unfold leftT
  by_cases h0 : L = []
  · rw [if_pos h0]
    intro n p hp
    have hm := mem_of_mget hp
    unfold rootT at hm
    simp only [List.mem_cons, List.not_mem_nil, or_false, Prod.mk.injEq] at hm
    obtain ⟨_, rfl⟩ := hm
    exact ⟨by simp, by simp⟩
  · rw [if_neg h0]; exact tl_bound2 h
theorem link_nums {q n cap : Nat} (hq : q < n) (hn : n ≤ 20) (hc : n ≤ cap) : (q : Int) ≤ n ∧ IntKind.i64.wrap ((q : Int) + 1) = (q : Int) + 1 ∧ ((q : Int) + 1).toNat = q + 1 ∧ (0 : Int) ≤ (q : Int) + 1 ∧ (q : Int) ≤ (q : Int) + 1 ∧ (q : Int) ≤ cap ∧ (q : Int) + 1 ≤ n ∧ (q : Int) + 1 ≤ cap ∧ (cap = q + 1 → n = q + 1) :=
  ⟨by omega, IntWalk.i64_in _ (by omega), by omega, by omega, by omega, by omega, by omega, by omega, by omega⟩
theorem cut_vals {L L2 : List Nat} {q : Nat} (h : L.take q ++ L.drop (q + 1) = L2) (hq : q < L.length) : ((strV L).take q).length = q ∧ ((strV L).drop (q + 1)).length = L.length - (q + 1) ∧ (strV L).take q ++ (strV L).drop (q + 1) = strV L2 ∧ L2.length = L.length - 1 := by
  refine ⟨by rw [List.length_take, strV_len]; omega, by rw [List.length_drop, strV_len], ?_, by rw [← h, List.length_append, List.length_take, List.length_drop]; omega⟩
  rw [← h]
  unfold strV
  rw [List.map_append, List.map_take, List.map_drop]
theorem cut_nodup {L L2 : List Nat} {q : Nat} (h : L.take q ++ L.drop (q + 1) = L2) (hL : L.Nodup ∧ ∀ x ∈ L, x < 20) : L2.Nodup ∧ ∀ x ∈ L2, x < 20 := by
  have hs : L2.Sublist L := by
    rw [← h, ← List.eraseIdx_eq_take_drop_succ]
    exact List.eraseIdx_sublist ..
  exact ⟨hs.nodup hL.1, fun x hx => hL.2 x (hs.subset hx)⟩
theorem strV_one (L : List Nat) (u : Value) (h : u ∈ strV L) : u.oneCell' = true := by
  obtain ⟨i, _, rfl⟩ := List.mem_map.1 h
  rfl
theorem nil_cells {L : List Nat} {q g : Nat} {w : World} (h : L.length = q + 1) : ∀ (j : Nat) u, ((strV L).drop (q + 1))[j]? = some u → w.cell? ⟨g, 0 + j, none⟩ = some u := fun j u hj => by
  rw [List.drop_eq_nil_of_le (by rw [strV_len]; omega)] at hj
  simp at hj
theorem append_facts {W0 w : World} {tb : Nat} {T : PT} {g cap q : Nat} {L : List Nat} (h : TreeRow W0 w tb T (.slice (some ⟨g, 0, none⟩) L.length cap) (strV L)) :
    RowV (w.alloc (.cells #[] 9)) 9 (.slice (some ⟨w.heap.size, 0, none⟩) 0 0) [] ∧
    (∀ (j : Nat) u, ((strV L).take q)[j]? = some u → (w.alloc (.cells #[] 9)).cell? ⟨g, 0 + j, none⟩ = some u) ∧
    (∀ w3, Turn (fun j => (Value.slice (some ⟨w.heap.size, 0, none⟩) 0 0).ownBlock = some j) (w.alloc (.cells #[] 9)) w3 → ∀ (j : Nat) u, ((strV L).drop (q + 1))[j]? = some u → w3.cell? ⟨g, q + 1 + j, none⟩ = some u) ∧
    (0 < ((strV L).take q).length ∨ (Value.slice (some ⟨w.heap.size, 0, none⟩) 0 0) ≠ .slice none 0 0) ∧
    (∀ (g3 z3 : Nat), 0 < ((strV L).drop (q + 1)).length ∨ (Value.slice (some ⟨g3, 0, none⟩) q z3) ≠ .slice none 0 0) := by
  have h2 := h.row
  rw [← strV_len] at h2
  have hgl := h2.own_lt g rfl
  have hc : ∀ (j : Nat) u, (strV L)[j]? = some u → (w.alloc (.cells #[] 9)).cell? ⟨g, j, none⟩ = some u := fun j u hj => by
    rw [World.cell?_alloc_lt _ _ _ hgl]
    exact h2.cell j u hj
  refine ⟨World.ownsRow_lit w #[] 0 (Nat.zero_le _) (Nat.zero_le _) rfl, fun j u hj => ?_, fun w3 t3 j u hj => ?_, .inr (by simp), fun _ _ => .inr (by simp)⟩
  · rw [Nat.zero_add]
    rw [List.getElem?_take] at hj
    split at hj
    · exact hc j u hj
    · cases hj
  · rw [List.getElem?_drop] at hj
    refine (t3.cell (a := ⟨g, q + 1 + j, none⟩) (by simp only [World.size_alloc]; omega) (fun e => by simp only [Value.ownBlock, Option.some.injEq] at e; omega)).trans (hc _ u hj)
set_option maxRecDepth 100000 in
theorem treeLinks_long (a : Option Addr) (n cap : Nat) (z : Int) (s : ByteArray) (w : World) (hn : n ≤ maxLen) (h : 40 < n ∨ 100 < s.size) :
    Calls Tryz.prog 6 #[.int .i64 z, .slice a n cap, .string s] w fun e w' => e = .returned (.bool true) ∧ Turn (fun _ => False) w w' := by
  have hm : maxLen = 9223372036854775807 := rfl
  by_cases h1 : 40 < n
  · have h1' : (40 : Int) < n := by omega
    clear h h1
    go_enter Tryz.func6, Tryz.ntmps6
    go_wp2_with fail
    go_returns
    exact ⟨rfl, Turn.refl _ _⟩
  · have h1' : ¬ (40 : Int) < n := by omega
    have h2' : (100 : Int) < s.size := by omega
    clear h h1
    go_enter Tryz.func6, Tryz.ntmps6
    go_wp2_with fail
    go_returns
    exact ⟨rfl, Turn.refl _ _⟩
set_option maxHeartbeats 8000000 in
set_option maxRecDepth 100000 in
theorem treeLinks_is (a : Option Addr) (ns : List Int) (cap : Nat) (z : Int) (s : ByteArray) (W : World) (hL : Laid W) (hTb : Tab W) (hl : ns.length ≤ 40) (hs : s.size ≤ 100) (hc : NumsIn W a ns) (hns : ∀ x ∈ ns, -9223372036854775808 ≤ x ∧ x ≤ 9223372036854775807) (hz : -9223372036854775808 ≤ z ∧ z ≤ 9223372036854775807) :
    Calls Tryz.prog 6 #[.int .i64 z, .slice a ns.length cap, .string s] W fun e w' => e = .returned (.bool true) ∧ Turn (fun _ => False) W w' := by
  have h1' : ¬ (40 : Int) < ns.length := by omega
  have h2' : ¬ (100 : Int) < s.size := by omega
  have te : TErr 0 = .nilIface := rfl
  have HC := hid hc
  have HL := hid hL
  have HTb := hid hTb
  have HNs := hid hns
  have HZ := hid hz
  clear hc hL hTb hns hz
  go_enter Tryz.func6, Tryz.ntmps6
  go_wp2_with fail
  refine (named_is W).mono ?_
  rintro e w0 ⟨rfl, t0⟩
  have HT0 := hid t0
  clear t0
  go_wp2_with fail
  refine (law_new w0).mono ?_
  rintro e w1 ⟨tb, rfl, h1⟩
  have HC1 := hid (law_create h1 ⟨#[47, 48]⟩ (by decide))
  clear h1
  go_wp2_with fail
  refine HC1.out.mono ?_
  rintro e w2 ⟨rfl, h2⟩
  rw [many_create.1, many_create.2.1]
  rw [many_create.2.2] at h2
  have hW := law_write h2 1 0 s (by omega)
  rw [(many_write hs).1, (many_write hs).2] at hW
  have HW := hid hW
  clear h2 HC1 hW
  go_wp2_with fail
  refine HW.out.mono ?_
  rintro e w3 ⟨rfl, h3⟩
  have H3 := hid h3.row
  clear h3 HW
  go_wp2_with fail
  refine (pick_some z 20 w3 (by omega) (by omega)).mono ?_
  rintro e w6 ⟨k0, hk0, hk1, rfl, hw⟩; subst w6
  obtain ⟨M, hM, hM1, hM20⟩ : ∃ M : Nat, (1 : Int) + k0 = M ∧ 1 ≤ M ∧ M ≤ 20 := ⟨(1 + k0).toNat, by omega, by omega, by omega⟩
  have hwM : wrap64 (1 + k0) = M := by rw [IntWalk.wrap64_in _ (by omega)]; exact hM
  have hwM2 : (1 : Int) + k0 = M := hM
  clear hM hk0 hk1
  go_wp2_with fail
  go_loopg [10, 11] M (fun gl v i wr => ∃ (k : Nat) (v1 : Value), v1 = v ∧ k + gl = M ∧ i = .int .i64 k ∧ Hid (TreeRow w0 wr tb (TL (rgN k) s) v1 (strV (List.range k))))
  case atStart => exact ⟨0, _, rfl, by omega, rfl, H3⟩
  case round =>
    clear H3
    obtain ⟨k, v, rfl, hk, rfl, hR⟩ := hrel
    have HTk := hid (HTb.out.turned (HT0.out.trans hR.out.turn))
    by_cases hkM : k < M
    · have hkM' : (k : Int) < M := by omega
      have hk20 : k < 20 := by omega
      obtain ⟨X, hXk⟩ : ∃ X, nmOf k = X := ⟨_, rfl⟩
      have hXs : X.size ≤ 2 := by rw [← hXk]; exact nm_size hk20
      have HI : Hid (Calls Tryz.prog 36 #[.int .i64 k] wr fun e w' => e = .returned (.string X) ∧ Turn (fun _ => False) wr w') := hid (hXk ▸ itoa_is k (by omega) (by omega) wr HTk.out)
      have HX := hid hXk
      clear hXk
      go_wp2_with fail
      refine HI.out.mono ?_
      rintro e w5 ⟨rfl, t5⟩
      obtain ⟨Y, hY⟩ : ∃ Y, (⟨#[47]⟩ ++ X : ByteArray) = Y := ⟨_, rfl⟩
      have HY : Hid (Y = pthOf k) := hid (by rw [← hY, ← HX.out]; rfl)
      have HR5 := hid (hR.out.still t5)
      have HT5 := hid (HTk.out.turned t5)
      clear t5 HI hR
      by_cases hk0 : k = 0
      · have hk0' : ¬ (0 : Int) < k := by omega
        have HN : Hid (∀ w v, TreeRow w0 w tb (TL (rgN k) s) v (strV (List.range k)) → Calls Tryz.prog 35 #[.pointer (some ⟨tb, 0, none⟩)] w fun e w' => e = .returned (.int .i64 2) ∧ w' = w) := hid (fun w v h => law_nodes h.law)
        have HN5 := hid (HN.out _ _ HR5.out)
        have Hk0 := hid hk0
        clear hk0
        go_wp2_with fail
        refine HN5.out.mono ?_
        rintro e w6 ⟨rfl, hw⟩; subst w6
        have HLen : Hid ((strV (List.range k)).length ≤ 1000000) := hid (by rw [strV_len, List.length_range]; omega)
        have HTl : Hid (rgN (k + 1) = rgN k) := hid (by rw [Hk0.out]; rfl)
        have HRW := hid (HR5.out)
        go_wp2_with (at_builtin; go_loud (refine wpList_append_val (z := .string ⟨#[]⟩) (bytes := 16) rfl _ _ rfl Tryz.underlying40 (by kernel_rfl) rfl (by decide) v _ rfl (rowv_alloc HRW.out.row _) _ 1 (.string Y) rfl (by simp) rfl HLen.out ?_; intro g3 z3 w9 hi3 t3 ho3; have HI3 := hid hi3; have HT3 := hid t3; have HO3 := hid ho3; clear hi3 t3 ho3))
        go_roundg (gk - 1)
        case measure => omega
        case rel =>
          refine ⟨k + 1, _, rfl, by omega, by go_num, hid ?_⟩
          rw [HTl.out]
          exact links_next HRW.out HY.out HI3.out HT3.out HO3.out
      · have hk0' : (0 : Int) < k := by omega
        have hdv : ((k / 2 : Nat) : Int) = (k : Int) / 2 := by omega
        have hrg : rgN k = List.range k := if_neg hk0
        have hT1 : rgN (k + 1) = List.range k ++ [k] := by
          show List.range (k + 1) = _
          exact List.range_succ
        obtain ⟨q1, q2⟩ := tl_link (s := s) (l := List.range k) (i := k / 2) (j := k) (fun j hj => by have := List.mem_range.1 hj; omega) (List.mem_range.2 (by omega)) (by omega) hk20 (fun h => by have := List.mem_range.1 h; omega)
        have HN : Hid (∀ w v, TreeRow w0 w tb (TL (rgN (k + 1)) s) v (strV (List.range k)) → Calls Tryz.prog 35 #[.pointer (some ⟨tb, 0, none⟩)] w fun e w' => e = .returned (.int .i64 2) ∧ w' = w) := hid (fun w v h => law_nodes h.law)
        obtain ⟨X2, hXk⟩ : ∃ X, nmOf (k / 2) = X := ⟨_, rfl⟩
        have hXs2 : X2.size ≤ 2 := by rw [← hXk]; exact nm_size (by omega)
        have HI2 : Hid (Calls Tryz.prog 36 #[.int .i64 ((k / 2 : Nat) : Int)] w5 fun e w' => e = .returned (.string X2) ∧ Turn (fun _ => False) w5 w') := hid (hXk ▸ itoa_is ((k / 2 : Nat) : Int) (by omega) (by omega) w5 HT5.out)
        obtain ⟨Y2, hY2⟩ : ∃ Y, (⟨#[47]⟩ ++ X2 : ByteArray) = Y := ⟨_, rfl⟩
        have hY2p : Y2 = pthOf (k / 2) := by rw [← hY2, ← hXk]; rfl
        have HLk : Hid (∀ w, TreeRow w0 w tb (TL (rgN k) s) v (strV (List.range k)) → Calls Tryz.prog 37 #[.pointer (some ⟨tb, 0, none⟩), .string Y2, .string Y] w fun e w' => e = .returned .nilIface ∧ TreeRow w0 w' tb (TL (rgN (k + 1)) s) v (strV (List.range k))) := hid (fun w h => by
          rw [hrg] at h
          have := row_link h (pthOf (k / 2)) (pthOf k) (by have := pth_size (i := k / 2) (by omega); omega) (by have := pth_size hk20; omega) (tl_bound (by rw [List.length_range]; omega))
          rw [q1, q2] at this
          rw [hY2p, HY.out, hT1]
          exact this)
        have HX2 := hid hXk
        have Hk0 := hid hk0
        have HLen : Hid ((strV (List.range k)).length ≤ 1000000) := hid (by rw [strV_len, List.length_range]; omega)
        clear hk0 hrg hT1 q1 q2 hXk hY2p
        go_wp2_with fail
        refine HI2.out.mono ?_
        rintro e w7 ⟨rfl, t7⟩
        have HK7 := hid (HLk.out w7 (HR5.out.still t7))
        clear t7 HI2 HR5 HLk
        go_wp2_with fail
        refine HK7.out.mono ?_
        rintro e w8 ⟨rfl, hRW⟩
        have HRW := hid hRW
        have HN5 := hid (HN.out _ _ hRW)
        clear hRW HK7 HN
        go_wp2_with fail
        refine HN5.out.mono ?_
        rintro e w6 ⟨rfl, hw⟩; subst w6
        go_wp2_with (at_builtin; go_loud (refine wpList_append_val (z := .string ⟨#[]⟩) (bytes := 16) rfl _ _ rfl Tryz.underlying40 (by kernel_rfl) rfl (by decide) v _ rfl (rowv_alloc HRW.out.row _) _ 1 (.string Y) rfl (by simp) rfl HLen.out ?_; intro g3 z3 w9 hi3 t3 ho3; have HI3 := hid hi3; have HT3 := hid t3; have HO3 := hid ho3; clear hi3 t3 ho3))
        go_roundg (gk - 1)
        case measure => omega
        case rel =>
          refine ⟨k + 1, _, rfl, by omega, by go_num, hid ?_⟩
          exact links_next HRW.out HY.out HI3.out HT3.out HO3.out
    · have hkM' : ¬ (k : Int) < M := by omega
      have hkM2 : k = M := by omega
      subst hkM2
      have hrg : rgN k = List.range k := if_neg (by omega)
      have hR2 := hR.out
      rw [hrg] at hR2
      have HR := hid hR2
      clear hR2 hrg hR HTk
      go_wp2_with fail
      have HTk := hid (HTb.out.turned (HT0.out.trans HR.out.turn))
      clear HTk hwM hwM2 hk hkM hkM'
      go_loopg [10, 13] k (fun gl v i wr => ∃ (L : List Nat) (v1 : Value) (j : Nat), v1 = v ∧ L.length = gl ∧ i = .int .i64 j ∧ j + L.length ≤ 20 ∧ Hid (L.Nodup ∧ ∀ x ∈ L, x < 20) ∧ Hid (TreeRow w0 wr tb (leftT L s) v1 (strV L)))
      case atStart => exact ⟨List.range k, _, 0, rfl, List.length_range, rfl, by rw [List.length_range]; omega, hid ⟨List.nodup_range, fun x hx => by have := List.mem_range.1 hx; omega⟩, hid (by
        have e : leftT (List.range k) s = TL (List.range k) s := if_neg (fun h => by have := congrArg List.length h; rw [List.length_range] at this; simp only [List.length_nil] at this; omega)
        rw [e]; exact HR.out)⟩
      case round =>
        clear HR
        obtain ⟨L, v, j, rfl, hLl0, rfl, hjb, hL, hR⟩ := hrel
        have HLl := hid hLl0
        clear hLl0
        by_cases h0 : L = []
        · subst h0
          obtain ⟨a1, cap1, hv⟩ := hR.out.row.slice
          subst hv
          have hsl : (strV []).length = 0 := rfl
          rw [hsl]
          have hRd := row_read hR.out 1 0 1
          have hrt : leftT [] s = rootT := rfl
          rw [hrt, root_read.1, root_read.2] at hRd
          have HRd := hid hRd
          clear hRd hrt
          have te7 : TErr 7 = .iface 45 (.int .i64 7) := rfl
          go_wp2_with fail
          refine HRd.out.mono ?_
          rintro e w5 ⟨rfl, h5⟩
          have HTe := hid (tell_errno 7 w5 (HL.out.turned0 (HT0.out.trans h5.turn)))
          have H5 := hid h5
          clear h5 HRd
          go_wp2_with fail
          refine HTe.out.mono ?_
          rintro e w6 ⟨rfl, t6⟩
          have H6 := hid (H5.out.still t6)
          have hN := law_nodes H6.out.law
          have hlen : (rootT.length : Int) = 1 := rfl
          rw [hlen] at hN
          have HN := hid hN
          clear t6 hN hlen HTe
          go_wp2_with fail
          refine HN.out.mono ?_
          rintro e w7 ⟨rfl, hw⟩; subst w7
          go_wp2_with fail
          go_returns
          exact ⟨rfl, HT0.out.trans H6.out.turn⟩
        · have hpos : 0 < L.length := List.length_pos_iff.2 h0
          have hle : leftT L s = TL L s := if_neg h0
          have hR2 := hR.out
          rw [hle] at hR2
          obtain ⟨g, cap1, hv, hcap, hcm, hgl⟩ : ∃ g cap, v = .slice (some ⟨g, 0, none⟩) L.length cap ∧ L.length ≤ cap ∧ cap ≤ maxLen ∧ g < wr.heap.size := by
            rcases hR2.row.shape with ⟨_, h⟩ | ⟨g, cap, h, h2, h3, h4⟩
            · exact absurd (by have := congrArg List.length h; rw [strV_len] at this; exact List.length_eq_zero_iff.1 this) h0
            · rw [strV_len] at h h2; exact ⟨g, cap, h, h2, h3, h4⟩
          subst hv
          have HR := hid hR2
          clear hR2 hle hR h0
          have hL20 : (L.length : Int) ≤ 20 := by omega
          have hpos' : (0 : Int) < L.length := by omega
          go_upto_if 86 with fail
          go_cut [14] (fun v wx => ∃ q : Nat, v = .int .i64 q ∧ q < L.length ∧ wr = wx)
          case first =>
            as_aux_lemma =>
              by_cases hn0 : 0 < ns.length
              · have hn0' : (0 : Int) < ns.length := by omega
                rcases (HC.out.turned (HT0.out.trans HR.out.turn)) with h | ⟨g2, off2, rfl, _, hcs⟩
                · rw [h] at hn0; simp at hn0
                · obtain ⟨x, hx⟩ : ∃ x, ns[j % ns.length]? = some x := ⟨_, List.getElem?_eq_getElem (Nat.mod_lt _ hn0)⟩
                  have cs := hcs (j % ns.length) x hx
                  have hmd : (j : Int).tmod ns.length = ((j % ns.length : Nat) : Int) := by
                    rw [Int.tmod_eq_emod_of_nonneg (by omega)]; rfl
                  have hqm : j % ns.length < ns.length := Nat.mod_lt _ hn0
                  obtain ⟨qm, hqe⟩ : ∃ qm, j % ns.length = qm := ⟨_, rfl⟩
                  rw [hqe] at hmd cs hqm
                  have hw1 : wrap64 (qm : Int) = qm := IntWalk.wrap64_in _ (by omega)
                  have hnz : ¬ (ns.length : Int) = 0 := by omega
                  clear hcs hx hqe
                  go_wp2_with fail
                  refine (pick_some x L.length wr (by omega) (by omega)).mono ?_
                  rintro e w6 ⟨k0, hk0, hk1, rfl, hw⟩; subst w6
                  obtain ⟨q, rfl⟩ : ∃ q : Nat, k0 = q := ⟨k0.toNat, by omega⟩
                  go_wp2_with fail
                  go_meet
                  exact ⟨q, rfl, by omega, rfl⟩
              · have hn0' : ¬ (0 : Int) < ns.length := by omega
                go_wp2_with fail
                go_meet
                exact ⟨0, rfl, by omega, rfl⟩
          case rest =>
            obtain ⟨q, rfl, hq, rfl⟩ := hcut
            obtain ⟨x, hx⟩ : ∃ x, L[q]? = some x := ⟨_, List.getElem?_eq_getElem hq⟩
            go_wp2_with fail
            go_loopg [15] L.length (fun gl v w2 => ∃ m : Nat, m + gl = L.length ∧ v = .int .i64 m ∧ Hid (TreeRow w0 w2 tb (TL L s) (.slice (some ⟨g, 0, none⟩) L.length cap1) (strV L)))
            case atStart => exact ⟨0, by omega, rfl, HR⟩
            case round =>
              clear HR
              obtain ⟨m, hm, rfl, hR⟩ := hrel
              by_cases hml : m < L.length
              · as_aux_lemma =>
                  have hml' : (m : Int) < L.length := by omega
                  obtain ⟨y, hy⟩ : ∃ y, L[m]? = some y := ⟨_, List.getElem?_eq_getElem hml⟩
                  have hyL : y ∈ L := List.mem_of_getElem? hy
                  have hy20 := hL.out.2 y hyL
                  have cs := row_cell hR.out hy
                  have hF := row_find hR.out (pthOf y) (by have := pth_size hy20; omega)
                  rw [tl_find hyL hy20] at hF
                  have HF := hid hF
                  obtain ⟨P, hP⟩ : ∃ P, pthOf y = P := ⟨_, rfl⟩
                  rw [hP] at cs HF
                  clear hF hP hy hyL hR
                  go_wp2_with fail
                  refine HF.out.mono ?_
                  rintro e w5 ⟨rfl, h5⟩
                  have H5 := hid h5
                  clear h5 HF
                  go_wp2_with fail
                  go_roundg (gk - 1)
                  case measure => omega
                  case rel => exact ⟨m + 1, by omega, by go_num, H5⟩
              · have hml' : ¬ (m : Int) < L.length := by omega
                have hRd := row_read hR.out 1 0 100
                rw [(tl_read (l := L) hs).1, (tl_read (l := L) hs).2] at hRd
                have HRd := hid hRd
                have ess : (s.toList != s.toList) = false := by simp
                clear hRd hR hm hml
                go_wp2_with fail
                refine HRd.out.mono ?_
                rintro e w5 ⟨rfl, h5⟩
                have hqL := hL.out
                obtain ⟨u1, u2, u3, u4⟩ := left_unlink (s := s) hqL.2 hx hqL.1
                have hx20 := hqL.2 x (List.mem_of_getElem? hx)
                obtain ⟨P, hP⟩ : ∃ P, pthOf x = P := ⟨_, rfl⟩
                have hPs : P.size ≤ 3 := by rw [← hP]; exact pth_size hx20
                have hU1 := row_unlink h5 P (by omega) (tl_bound2 (by omega))
                rw [← hP] at hU1
                rw [u1, u2] at hU1
                have cs5 := row_cell h5 hx
                rw [hP] at hU1 cs5
                obtain ⟨L2, hL2⟩ : ∃ L2, L.take q ++ L.drop (q + 1) = L2 := ⟨_, rfl⟩
                have hlen2 : L2.length = L.length - 1 := by rw [← hL2, List.length_append, List.length_take, List.length_drop]; omega
                have HU2 : Hid (∀ w, TreeRow w0 w tb (leftT L2 s) (.slice (some ⟨g, 0, none⟩) L.length cap1) (strV L) → Calls Tryz.prog 39 #[.pointer (some ⟨tb, 0, none⟩), .string P] w fun e w' => e = .returned (TErr 7) ∧ TreeRow w0 w' tb (leftT L2 s) (.slice (some ⟨g, 0, none⟩) L.length cap1) (strV L)) := hid (fun w h => by
                  have := row_unlink h P (by omega) (left_bound (by omega))
                  rw [← hP, ← hL2, u3, u4] at this
                  rw [← hP, ← hL2]
                  exact this)
                have HCs : Hid (∀ w (T : PT), TreeRow w0 w tb T (.slice (some ⟨g, 0, none⟩) L.length cap1) (strV L) → w.cell? ⟨g, q, none⟩ = some (.string P)) := hid (fun w T h => by rw [← hP]; exact row_cell h hx)
                rw [hL2] at hU1
                have HU1 := hid hU1
                have HL2 := hid hL2
                have hq' : (q : Int) < L.length := by omega
                clear hU1 u1 u2 u3 u4 hqL hP h5 HRd hx hL2 hlen2
                go_wp2_with fail
                refine HU1.out.mono ?_
                rintro e w6 ⟨rfl, h6⟩
                have cs6 := HCs.out w6 _ h6
                have HU2b := hid (HU2.out w6 h6)
                have te7 : TErr 7 = .iface 45 (.int .i64 7) := rfl
                clear h6 HU1 HU2
                go_wp2_with fail
                refine HU2b.out.mono ?_
                rintro e w7 ⟨rfl, h7⟩
                have H7 := hid h7
                clear h7 HU2b HCs cs6 cs5
                obtain ⟨f1, f2, f3, f4⟩ := cut_vals HL2.out hq
                have HTk2 := hid f1
                have HDr2 := hid f2
                have HS2 := hid f3
                have HN2 := hid f4
                clear f1 f2 f3 f4
                obtain ⟨f1, f2, f3, f4, f5⟩ := append_facts (q := q) H7.out
                have HTa : Hid (Turn (fun _ => False) w7 (w7.alloc (.cells #[] 9)).drew) := hid ((Turn.refl _ _).alloc _).drew
                have HO1 : Hid (RowV (w7.alloc (.cells #[] 9)).drew 9 (.slice (some ⟨w7.heap.size, 0, none⟩) 0 0) []) := hid (f1.turned (Turn.refl _ _).drew (fun _ _ => id))
                have HC1 : Hid (∀ (j : Nat) u, ((strV L).take q)[j]? = some u → (w7.alloc (.cells #[] 9)).drew.cell? ⟨g, 0 + j, none⟩ = some u) := hid (fun j u h => by rw [World.cell?_drew]; exact f2 j u h)
                have HC2 : Hid (∀ w3, Turn (fun j => (Value.slice (some ⟨w7.heap.size, 0, none⟩) 0 0).ownBlock = some j) (w7.alloc (.cells #[] 9)).drew w3 → ∀ (j : Nat) u, ((strV L).drop (q + 1))[j]? = some u → w3.cell? ⟨g, q + 1 + j, none⟩ = some u) := hid (fun w3 t => f3 w3 ((Turn.refl _ _).drew.trans t))
                have HM1 := hid f4
                have HM3 := hid f5
                clear f1 f2 f3 f4 f5
                have HC3 := hid (fun (w3 : World) (h0 : L.length = q + 1) => nil_cells (L := L) (q := q) (w := w3) (g := g) h0)
                have HO := hid (fun (n : Nat) (u : Value) (h : u ∈ (strV L).take n ∨ u ∈ (strV L).drop n) => strV_one L u (h.elim List.mem_of_mem_take List.mem_of_mem_drop))
                have HLL : Hid (([] : List Value).length + ((strV L).take q).length ≤ 1000000) := hid (by rw [HTk2.out]; simp only [List.length_nil]; omega)
                have HLL3 : Hid (([] ++ (strV L).take q).length + ((strV L).drop (q + 1)).length ≤ 1000000) := hid (by rw [HDr2.out, List.nil_append, HTk2.out]; omega)
                have HN1 : Hid (([] : List Value).length + ((strV L).take q).length = q) := hid (by rw [HTk2.out]; simp)
                have HN3 : Hid (([] ++ (strV L).take q).length + ((strV L).drop (q + 1)).length = (strV L2).length) := hid (by rw [List.nil_append, ← List.length_append, HS2.out])
                obtain ⟨htl, hw1, hw2, hw3, hw4, htc, htl1, htc1, hkk⟩ := link_nums hq (by omega) hcap
                have HKK := hid hkk
                clear hkk
                go_wp2_with fail
                by_cases hct : cap1 = q + 1
                · have HKl := hid (HKK.out hct)
                  go_region_law (first | (refine step_append_vals (z := .string ⟨#[]⟩) (bytes := 16) rfl _ _ rfl Tryz.underlying40 (by kernel_rfl) rfl (by decide) (.slice (some ⟨w7.heap.size, 0, none⟩) 0 0) [] rfl HO1.out g 0 _ ((strV L).take q) q HTk2.out rfl HC1.out (fun u h => HO.out q u (.inl h)) HM1.out HLL.out q HN1.out ?_; intro g3 z3 w8 hi3 t3 ho3; have HI3 := hid hi3; have HT3 := hid t3; have HO3 := hid ho3; clear hi3 t3 ho3) | (refine step_append_vals (z := .string ⟨#[]⟩) (bytes := 16) rfl _ _ rfl Tryz.underlying40 (by kernel_rfl) rfl (by decide) (.slice (some ⟨g3, 0, none⟩) q z3) _ rfl HI3.out g 0 _ ((strV L).drop (q + 1)) (L.length - (q + 1)) HDr2.out rfl (HC3.out w8 HKl.out) (fun u h => HO.out (q + 1) u (.inr h)) (HM3.out g3 z3) HLL3.out (strV L2).length HN3.out ?_; intro g4 z4 w9 hi4 t4 ho4; have HI4 := hid hi4; have HT4 := hid t4; have HO4 := hid ho4; clear hi4 t4 ho4))
                  all_goals
                    go_wp2_with fail
                    go_roundg (L.length - 1)
                    case measure => have := HLl.out; omega
                    case rel =>
                      obtain ⟨t9, hg9⟩ := two_apps HTa.out HT3.out HO3.out HT4.out HO4.out
                      exact ⟨L2, _, j + 1, rfl, HN2.out, by go_num, by have := HN2.out; omega, hid (cut_nodup HL2.out hL.out), hid (H7.out.fresh (by have := HI4.out; rw [List.nil_append, HS2.out] at this; exact this) t9 hg9)⟩
                · go_region_law (first | (refine step_append_vals (z := .string ⟨#[]⟩) (bytes := 16) rfl _ _ rfl Tryz.underlying40 (by kernel_rfl) rfl (by decide) (.slice (some ⟨w7.heap.size, 0, none⟩) 0 0) [] rfl HO1.out g 0 _ ((strV L).take q) q HTk2.out rfl HC1.out (fun u h => HO.out q u (.inl h)) HM1.out HLL.out q HN1.out ?_; intro g3 z3 w8 hi3 t3 ho3; have HI3 := hid hi3; have HT3 := hid t3; have HO3 := hid ho3; clear hi3 t3 ho3) | (refine step_append_vals (z := .string ⟨#[]⟩) (bytes := 16) rfl _ _ rfl Tryz.underlying40 (by kernel_rfl) rfl (by decide) (.slice (some ⟨g3, 0, none⟩) q z3) _ rfl HI3.out g (q + 1) _ ((strV L).drop (q + 1)) (L.length - (q + 1)) HDr2.out rfl (HC2.out w8 HT3.out) (fun u h => HO.out (q + 1) u (.inr h)) (HM3.out g3 z3) HLL3.out (strV L2).length HN3.out ?_; intro g4 z4 w9 hi4 t4 ho4; have HI4 := hid hi4; have HT4 := hid t4; have HO4 := hid ho4; clear hi4 t4 ho4))
                  all_goals
                    go_wp2_with fail
                    go_roundg (L.length - 1)
                    case measure => have := HLl.out; omega
                    case rel =>
                      obtain ⟨t9, hg9⟩ := two_apps HTa.out HT3.out HO3.out HT4.out HO4.out
                      exact ⟨L2, _, j + 1, rfl, HN2.out, by go_num, by have := HN2.out; omega, hid (cut_nodup HL2.out hL.out), hid (H7.out.fresh (by have := HI4.out; rw [List.nil_append, HS2.out] at this; exact this) t9 hg9)⟩
end Go.Proofs.YtiohpmcedfbcgacGreatDoor
