/- BuddyPlays walked: true, and nothing that was there turns. Conditions: the variable errors.errorType holds what is laid; the argument lies in memory. -/
import Derived.Test.YtiohpmcedfbcgabDoorSameBlocks
import Derived.Test.YtiohpmcedfbcgabDoorPlace
import Derived.Deep.RegionWith
import Derived.Deep.RegionHeld3
import Derived.Deep.LoopGhost
import Derived.Deep.DeepCutAuto
import Derived.Deep.CutBlock
import Derived.Outline
namespace Go.Proofs.YtiohpmcedfbcgabDoor
open Go.RowKit
set_option linter.unusedVariables false

/-- Operations (which, two numbers, a word) lie from off on in block b. -/
def OpsAt (w : World) (b off : Nat) (xs : List (Int × Int × Int × Int)) : Prop :=
  ∀ j x, xs[j]? = some x → w.cell? ⟨b, off + j * 4, none⟩ = some (.int .i64 x.1) ∧ w.cell? ⟨b, off + j * 4 + 1, none⟩ = some (.int .i64 x.2.1) ∧ w.cell? ⟨b, off + j * 4 + 2, none⟩ = some (.int .i64 x.2.2.1) ∧ w.cell? ⟨b, off + j * 4 + 3, none⟩ = some (.int .i64 x.2.2.2)
theorem OpsAt.turned {w w' : World} {b off : Nat} {xs : List (Int × Int × Int × Int)} {S : Nat → Prop} (h : OpsAt w b off xs) (t : Turn S w w') (hb : b < w.heap.size) (hn : ¬ S b) : OpsAt w' b off xs := fun j x hx => by
  obtain ⟨a, c, d, e⟩ := h j x hx
  exact ⟨(t.cell (a := ⟨b, _, none⟩) hb hn).trans a, (t.cell (a := ⟨b, _, none⟩) hb hn).trans c, (t.cell (a := ⟨b, _, none⟩) hb hn).trans d, (t.cell (a := ⟨b, _, none⟩) hb hn).trans e⟩

/-- An Errno as an error: nil for 0. -/
def errB (z : Int) : Value := if z = 0 then .nilIface else .iface 40 (.int .i64 z)
theorem errB0 : errB 0 = .nilIface := rfl
theorem bareB (z : Int) (w : World) (hg : Laid w) : Calls Tryd.prog 22 #[errB z, .int .i64 z] w fun e w' => e = .returned (.bool true) ∧ Turn (fun _ => False) w w' := by
  by_cases hz : z = 0
  · subst hz
    exact bare_nil w
  · have e : errB z = .iface 40 (.int .i64 z) := by unfold errB; rw [if_neg hz]
    rw [e]
    exact bare_errno z w hg

theorem bplays_out (n : Int) (v : Value) (w : World) (hL : Laid w) (h : n < 1 ∨ 256 < n) : Calls Tryd.prog 4 #[.int .i64 n, v] w fun e w' => e = .returned (.bool true) ∧ Turn (fun _ => False) w w' := by
  have HN := hid (new_range n w h)
  have HB := hid (bare_errno 2 w hL)
  have h' : ¬ n < 1 → 256 < n := fun h1 => h.resolve_left h1
  clear h
  by_cases h1 : n < 1
  · clear h'
    go_enter Tryd.func4, Tryd.ntmps4
    go_wp2_with fail
    refine HN.out.mono ?_
    rintro e w1 ⟨rfl, rfl⟩
    go_wp2_with fail
    refine HB.out.mono ?_
    rintro e w1 ⟨rfl, t⟩
    have HT := hid t
    clear t
    go_wp2_with fail
    go_ret
    exact ⟨rfl, HT.out⟩
  · have h2 := h' h1
    clear h'
    go_enter Tryd.func4, Tryd.ntmps4
    go_wp2_with fail
    refine HN.out.mono ?_
    rintro e w1 ⟨rfl, rfl⟩
    go_wp2_with fail
    refine HB.out.mono ?_
    rintro e w1 ⟨rfl, t⟩
    have HT := hid t
    clear t
    go_wp2_with fail
    go_ret
    exact ⟨rfl, HT.out⟩

set_option maxRecDepth 100000 in
theorem bplays_many (n : Int) (a : Option Addr) (len cap : Nat) (w : World) (h1 : 1 ≤ n) (h2 : n ≤ 256) (hm : 60 < len) (hl : len ≤ 9223372036854775807) :
    Calls Tryd.prog 4 #[.int .i64 n, .slice a len cap] w fun e w' => e = .returned (.bool true) ∧ Turn (fun _ => False) w w' := by
  have HN := hid (new_any n w h1 h2)
  have hm' : (60 : Int) < len := by omega
  have h3 : ¬ n < 1 := by omega
  have h4 : ¬ 256 < n := by omega
  clear hm
  go_enter Tryd.func4, Tryd.ntmps4
  go_wp2_with fail
  refine HN.out.mono ?_
  rintro e w1 ⟨p, mb, vs, fr, rfl, hp, hg, t, hf⟩
  have HT := hid t
  clear t hp hg hf
  go_wp2_with fail
  go_ret
  exact ⟨rfl, HT.out⟩

/-- What both Give answer, what is taken then, and which frames are free then. -/
def giveR (tk : List Bk) (b o : Int) : Int := if (mget tk b).map (fun k : Nat => (k : Int)) = some o then 0 else 7
def giveT (tk : List Bk) (b o : Int) : List Bk := if (mget tk b).map (fun k : Nat => (k : Int)) = some o then mdel tk b else tk
def giveB (g : Bits) (tk : List Bk) (b o : Int) : Bits := if (mget tk b).map (fun k : Nat => (k : Int)) = some o then fill g b (b + sz o.toNat) true else g
theorem giveB_bits {n : Nat} {fr : Fr} {tk : List Bk} {g : Bits} (h : BitsOf n tk g) (hg : Good n fr tk) (hnd : MNodup tk) (b o : Int) : BitsOf n (giveT tk b o) (giveB g tk b o) := by
  unfold giveT giveB
  split
  · rename_i hm
    cases e : mget tk b with
    | none => rw [e] at hm; cases hm
    | some k =>
      rw [e] at hm
      simp only [Option.map_some, Option.some.injEq] at hm
      subst hm
      rw [Int.toNat_natCast]
      exact h.gave hg hnd e
  · exact h
theorem give_any {w : World} {p mb : Nat} {vs : Nat → Value} {n : Int} {fr : Fr} {tk : List Bk} (h : PoolAt w p mb vs ⟨n, fr, tk⟩) (hg : Good n fr tk) (hn : n ≤ 256) (b o : Int) :
    Calls Tryd.prog 27 #[.pointer (some ⟨p, 0, none⟩), .int .i64 b, .int .i64 o] w fun e w' => e = .returned (errB (giveR tk b o)) ∧ ∃ fr', Good n fr' (giveT tk b o) ∧ PoolAfter p mb vs w w' ⟨n, fr', giveT tk b o⟩ := by
  unfold giveR giveT
  cases e : mget tk b with
  | none =>
    rw [if_neg (by simp), if_neg (by simp)]
    refine (give_missing h b o e).mono ?_
    rintro e w' ⟨rfl, rfl⟩
    exact ⟨rfl, fr, hg, PoolAfter.refl h⟩
  | some k =>
    by_cases hk : (k : Int) = o
    · subst hk
      rw [if_pos (by simp), if_pos (by simp)]
      refine (give_ok h b k e hg hn).mono ?_
      rintro e w' ⟨rfl, fr', h1, h2⟩
      exact ⟨rfl, fr', h1, h2⟩
    · rw [if_neg (by simpa using hk), if_neg (by simpa using hk)]
      refine (give_other h b o k e hk).mono ?_
      rintro e w' ⟨rfl, rfl⟩
      exact ⟨rfl, fr, hg, PoolAfter.refl h⟩
theorem refGive_any {w : World} {p fb mb cp n : Nat} {g : Bits} {fr : Fr} {tk : List Bk} (h : RefAt w p fb mb cp n g tk) (hg : Good n fr tk) (hn : n ≤ 256) (b o : Int) :
    Calls Tryd.prog 28 #[.pointer (some ⟨p, 0, none⟩), .int .i64 b, .int .i64 o] w fun e w' => e = .returned (.int .i64 (giveR tk b o)) ∧ RefAt w' p fb mb cp n (giveB g tk b o) (giveT tk b o) ∧ Turn (fun j => j = fb ∨ j = mb) w w' := by
  unfold giveR giveT giveB
  cases e : mget tk b with
  | none =>
    rw [if_neg (by simp), if_neg (by simp), if_neg (by simp)]
    refine (refGive_missing h b o e).mono ?_
    rintro e w' ⟨rfl, rfl⟩
    exact ⟨rfl, h, Turn.refl _ _⟩
  | some k =>
    by_cases hk : (k : Int) = o
    · subst hk
      rw [if_pos (by simp), if_pos (by simp), if_pos (by simp), Int.toNat_natCast]
      obtain ⟨hk7, hb0, _, hbn⟩ := hg.okT (b, k) (mem_of_mget e)
      simp only at hk7 hb0 hbn
      obtain ⟨bn, rfl⟩ : ∃ bn : Nat, b = bn := ⟨b.toNat, by omega⟩
      exact refGive_ok h bn k e hk7 hbn hn
    · rw [if_neg (by simpa using hk), if_neg (by simpa using hk), if_neg (by simpa using hk)]
      refine (refGive_other h b o k e hk).mono ?_
      rintro e w' ⟨rfl, rfl⟩
      exact ⟨rfl, h, Turn.refl _ _⟩

set_option maxHeartbeats 40000000 in
set_option maxRecDepth 100000 in
theorem bplays_few (n : Nat) (a : Option Addr) (xs : List (Int × Int × Int × Int)) (cap : Nat) (W : World) (hL : Laid W) (h1 : 1 ≤ n) (h2 : n ≤ 256) (hl : xs.length ≤ 60)
    (hc : xs ≠ [] → ∃ b off, a = some ⟨b, off, none⟩ ∧ OpsAt W b off xs ∧ b < W.heap.size) :
    Calls Tryd.prog 4 #[.int .i64 n, .slice a xs.length cap] W fun e w' => e = .returned (.bool true) ∧ Turn (fun _ => False) W w' := by
  have HN := hid (new_any n W (by omega) (by omega))
  have HC := hid hc
  have HL := hid hL
  have hm' : ¬ (60 : Int) < xs.length := by omega
  have h3 : ¬ (n : Int) < 1 := by omega
  have h4 : ¬ (256 : Int) < n := by omega
  clear hc hL
  go_enter Tryd.func4, Tryd.ntmps4
  go_wp2_with fail
  refine HN.out.mono ?_
  rintro e w1 ⟨p, mb, vs, fr, rfl, hp, hg, t1, hf⟩
  have HP1 := hid hp
  have HG1 := hid hg
  have HT1 := hid t1
  have HF1 := hid hf
  clear hp hg t1 hf HN
  go_wp2_with fail
  refine (refNew_any n h1 h2 w1).mono ?_
  rintro e w2 ⟨rp, fb, rmb, rcp, rfl, hr, t2, hf2⟩
  have HTwo : Hid (Two W w2 p mb vs ⟨(n : Int), fr, []⟩ rp fb rmb rcp n (fun _ => true) []) := hid
    ⟨HP1.out.turned t2 (fun _ _ => id), hr, HT1.out.trans t2, HF1.out, fun k hk => Nat.le_trans HT1.out.size (hf2 k hk), fun k hk hk2 => by
      have h1 := HP1.out.foot_below k hk
      have h2 := hf2 k hk2
      omega⟩
  have HB0 : Hid (BitsOf n [] (fun _ => true)) := hid (fun f _ => ⟨fun _ t ht => (by cases ht), fun _ => rfl⟩)
  clear hr t2 hf2 HP1 HT1 HF1
  go_wp2_with fail
  refine (free_any HTwo.out.pool HG1.out (by show (n : Int) ≤ 256; omega)).mono ?_
  rintro e w3 ⟨l, a3, cap3, hl3, rfl, hrow3, t3⟩
  have HTwo3 := hid (HTwo.out.turned t3)
  have HL3 := hid hl3
  have hrow3' : RowBk w3 a3 l := hrow3.imp id (fun ⟨g, h1, _, h2, h3⟩ => ⟨g, h1, h2, h3⟩)
  have HRow3 := hid hrow3'
  clear hrow3 hrow3' hl3 t3 HTwo
  go_wp2_with fail
  refine (refFree_any HTwo3.out.ref HG1.out HB0.out h2).mono ?_
  rintro e w4 ⟨l', a4, cap4, hl4, rfl, hrow4, t4⟩
  obtain rfl : l = l' := FreeOf.alike HG1.out HG1.out (fun _ => Iff.rfl) HL3.out hl4
  have HTwo4 := hid (HTwo3.out.turned t4)
  have hrow4' : RowBk w4 a4 l := hrow4.imp id (fun ⟨g, h1, _, h2, h3⟩ => ⟨g, h1, h2, h3⟩)
  have hrow5' : RowBk w4 a3 l := HRow3.out.imp id (fun ⟨g, h1, h2, h3⟩ => ⟨g, h1, Nat.lt_of_lt_of_le h2 t4.size, h3.turned t4 h2 id⟩)
  have hll : l.length ≤ 1000000 := by
    have h1 := hl4.1.length_eq
    have h2 := listTo_len (fr := fr) (fun k hk => HG1.out.len (by omega) k hk) (k := 7) (by omega)
    omega
  have HSame := hid (sameBlocks_same l a3 a4 cap3 cap4 hll hrow5' hrow4')
  clear hrow4 hrow4' hrow5' hl4 t4 HTwo3 HL3 HRow3 hll
  go_wp2_with fail
  refine HSame.out.mono ?_
  rintro e w5 ⟨rfl, t5⟩
  have HTwo5 := hid (HTwo4.out.turned t5)
  clear t5 HTwo4 HSame
  go_wp2_with fail
  go_loopg [8] (xs.length) (fun gl i wr => ∃ (j : Nat) (vs : Nat → Value) (fr : Fr) (tk : List Bk) (g : Bits), j + gl = xs.length ∧ i = .int .i64 j ∧ Hid (Two W wr p mb vs ⟨(n : Int), fr, tk⟩ rp fb rmb rcp n g tk) ∧ Hid (Good n fr tk) ∧ Hid (BitsOf n tk g))
  case atStart => exact ⟨0, vs, fr, [], _, by omega, rfl, HTwo5, HG1, HB0⟩
  case round =>
    clear HTwo5 HG1 HB0
    obtain ⟨j, vs, fr, tk, g, hj, rfl, hTw, hG, hB⟩ := hrel
    by_cases hlt : j < xs.length
    · have hlt' : (j : Int) < xs.length := by omega
      obtain ⟨⟨x0, x1, x2, x3⟩, hx⟩ : ∃ x, xs[j]? = some x := ⟨_, List.getElem?_eq_getElem hlt⟩
      obtain ⟨b, off, rfl, hO, hb⟩ := HC.out (by rintro rfl; simp at hlt)
      obtain ⟨d0, d1, d2, d3⟩ := hO.turned hTw.out.turn hb id j _ hx
      clear hO hx
      obtain ⟨pb, hpb⟩ : ∃ pb, pb = wr.heap.size := ⟨_, rfl⟩
      have T1 : Turn (fun _ => False) wr (wr.alloc (.cells #[.int .i64 x0, .int .i64 x1, .int .i64 x2, .int .i64 x3] 50)) := (Turn.refl _ _).alloc _
      have c0 : (wr.alloc (.cells #[.int .i64 x0, .int .i64 x1, .int .i64 x2, .int .i64 x3] 50)).cell? ⟨pb, 0, none⟩ = some (.int .i64 x0) := by rw [hpb]; simp
      have c1 : (wr.alloc (.cells #[.int .i64 x0, .int .i64 x1, .int .i64 x2, .int .i64 x3] 50)).cell? ⟨pb, 1, none⟩ = some (.int .i64 x1) := by rw [hpb]; simp
      have c2 : (wr.alloc (.cells #[.int .i64 x0, .int .i64 x1, .int .i64 x2, .int .i64 x3] 50)).cell? ⟨pb, 2, none⟩ = some (.int .i64 x2) := by rw [hpb]; simp
      have HTw1 := hid (hTw.out.turned T1)
      have HPb : Hid (∀ k, Foot p mb vs k ∨ RefFoot rp fb rmb k → k ≠ pb) := hid (fun k hk => by
        rcases hk with hk | hk
        · have := hTw.out.pool.foot_below k hk; omega
        · have := hTw.out.ref.foot_lt k hk; omega)
      clear hTw T1
      go_upto_region 13 with fail
      rw [← hpb]
      generalize wr.alloc (.cells #[.int .i64 x0, .int .i64 x1, .int .i64 x2, .int .i64 x3] 50) = W2 at *
      clear d0 d1 d2 d3 hpb
      go_upto_if 68 with fail
      go_cut [10, 11, 12, 13] (fun _ _ _ _ wx => ∃ (vs : Nat → Value) (fr : Fr) (tk : List Bk) (g : Bits), Hid (Two W wx p mb vs ⟨(n : Int), fr, tk⟩ rp fb rmb rcp n g tk) ∧ Hid (Good n fr tk) ∧ Hid (BitsOf n tk g))
      case first =>
        by_cases hx0 : 0 ≤ x0
        · as_aux_lemma =>
            by_cases ho : x1 < 0 ∨ 6 < x1
            · have HRa := hid (refAlloc_arg (w := W2) rp x1 ho)
              have HPa := hid (alloc_arg (w := W2) p x1 ho)
              have HBr := hid (bareB 1 W2 (HL.out.turned0 HTw1.out.turn))
              clear ho
              go_wp2_with fail
              refine HRa.out.mono ?_
              rintro e w6 ⟨rfl, rfl⟩
              go_wp2_with fail
              refine HPa.out.mono ?_
              rintro e w6 ⟨rfl, rfl⟩
              go_wp2_with fail
              refine HBr.out.mono ?_
              rintro e w6 ⟨rfl, t6⟩
              have HT6 := hid t6
              clear t6
              go_wp2_with fail
              go_meet
              exact ⟨_, _, _, _, hid (HTw1.out.turned HT6.out), hG, hB⟩
            · obtain ⟨o, rfl⟩ : ∃ o : Nat, x1 = o := ⟨x1.toNat, by omega⟩
              have ho6 : o ≤ 6 := by omega
              clear ho
              by_cases hno : ∀ k, o ≤ k → k < 7 → fr k = []
              · have HRa := hid (refAlloc_any HTw1.out.ref hG.out hB.out h2 o ho6 (-1) 0 (fun l hl => best_none (n := n) (tk := tk) hno l hl) (fun h => by omega))
                have HNo := hid hno
                clear hno
                go_wp2_with fail
                refine HRa.out.mono ?_
                rintro e w6 (⟨_, rfl, t6⟩ | ⟨h0, _⟩)
                · have HTw6 := hid (HTw1.out.turned t6)
                  have k1 := (t6.cell (a := ⟨pb, 1, none⟩) (lt_of_cell c1) id).trans c1
                  have HPa := hid (alloc_any HTw6.out.pool o ho6 hG.out (by show (n : Int) ≤ 256; omega))
                  clear t6 HRa
                  go_wp2_with fail
                  refine HPa.out.mono ?_
                  rintro e w7 (⟨rfl, rfl, _⟩ | ⟨k, base, fr', ok, hk7, _, hb', _, _⟩)
                  · have HBr := hid (bareB 12 w6 (HL.out.turned0 HTw6.out.turn))
                    clear HPa
                    go_wp2_with fail
                    refine HBr.out.mono ?_
                    rintro e w8 ⟨rfl, t8⟩
                    have HT8 := hid t8
                    clear t8
                    go_wp2_with fail
                    go_meet
                    exact ⟨_, _, _, _, hid (HTw6.out.turned HT8.out), hG, hB⟩
                  · exfalso
                    have := HNo.out k ok hk7
                    simp only at hb'
                    rw [this] at hb'
                    cases hb'
                · exact absurd h0 (by decide)
              · obtain ⟨k, hok, hk7, hne, hlow⟩ := order_pick hno
                obtain ⟨base, hbm, hbl⟩ := least_pick hne
                obtain ⟨_, hb0, _, hbn⟩ := hG.out.okF k base hk7 hbm
                have hso : sz o ≤ sz k := by
                  obtain ⟨d, rfl⟩ : ∃ d, k = o + d := ⟨k - o, by omega⟩
                  have e := sz_mul o d
                  rw [e]
                  have h1 := sz_pos o
                  have h2 := sz_pos d
                  have h3 := Int.mul_le_mul_of_nonneg_right (show (1 : Int) ≤ sz d by omega) (show (0 : Int) ≤ sz o by omega)
                  rw [Int.one_mul] at h3
                  exact h3
                have HRa := hid (refAlloc_any HTw1.out.ref hG.out hB.out h2 o ho6 base k (fun l hl => best_some hG.out hok hk7 hlow hbm hbl l hl) (fun h => by omega))
                have HPick := hid (And.intro hlow (And.intro hbm hbl))
                clear hno hlow hbm hbl hne hbn hso
                go_wp2_with fail
                refine HRa.out.mono ?_
                rintro e w6 (⟨h0, _⟩ | ⟨_, rfl, hr6, t6⟩)
                · exact absurd h0 (by simp only; omega)
                · have HTw6 := hid (HTw1.out.refd hr6 t6)
                  have k1 := (t6.cell (a := ⟨pb, 1, none⟩) (lt_of_cell c1) (fun e => e.elim (fun e => HPb.out fb (.inr (.inr (.inl rfl))) e.symm) (fun e => HPb.out rmb (.inr (.inr (.inr rfl))) e.symm))).trans c1
                  have HPa := hid (alloc_any HTw6.out.pool o ho6 hG.out (by show (n : Int) ≤ 256; omega))
                  clear t6 HRa hr6
                  simp only at HTw6
                  go_wp2_with fail
                  refine HPa.out.mono ?_
                  rintro e w7 (⟨_, _, hno⟩ | ⟨k', base', fr', ok', hk7', hlow', hb', hbl', rfl, hmn, hg', ha'⟩)
                  · exfalso
                    have := hno k hok hk7
                    simp only at this
                    have h2 := HPick.out.2.1
                    rw [this] at h2
                    cases h2
                  · have hkk : k' = k := by
                      rcases Nat.lt_trichotomy k' k with h | h | h
                      · have h1 := HPick.out.1 k' ok' h
                        simp only at hb'
                        rw [h1] at hb'; cases hb'
                      · exact h
                      · have h1 := hlow' k hok h
                        simp only at h1
                        have h2 := HPick.out.2.1
                        rw [h1] at h2; cases h2
                    subst hkk
                    have hbb : base' = base := by
                      have h1 := HPick.out.2.2 base' hb'
                      have h2 := hbl' base HPick.out.2.1
                      omega
                    subst hbb
                    obtain ⟨vs', htw'⟩ := HTw6.out.pooled ha'
                    have HTw7 := hid htw'
                    have HG7 := hid hg'
                    have HB7 := hid (hB.out.took (o := o) hmn)
                    have HBr := hid (bareB 0 w7 (HL.out.turned0 HTw7.out.turn))
                    rw [errB0] at HBr
                    clear HPa htw' hg' ha' hmn hbl' hb' hlow'
                    go_wp2_with fail
                    refine HBr.out.mono ?_
                    rintro e w8 ⟨rfl, t8⟩
                    have HT8 := hid t8
                    clear t8
                    go_wp2_with fail
                    go_meet
                    exact ⟨_, _, _, _, hid (HTw7.out.turned HT8.out), HG7, HB7⟩
        · as_aux_lemma =>
            have HTd : Hid (Two W W2.drew p mb vs ⟨(n : Int), fr, tk⟩ rp fb rmb rcp n g tk) := hid (HTw1.out.turned (Turn.refl _ _).drew)
            have HPbf : Hid (∀ k, Foot p mb vs k → k ≠ pb) := hid (fun k hk => HPb.out k (.inl hk))
            have HGv := hid (give_any HTd.out.pool hG.out (by omega) x1 x2)
            have HBg := hid (giveB_bits hB.out hG.out HTd.out.ref.mp.nodup x1 x2)
            obtain ⟨z, hz⟩ : ∃ z, giveR tk x1 x2 = z := ⟨_, rfl⟩
            have hrv := fun (w : World) (h : RefAt w rp fb rmb rcp n g tk) => refGive_any h hG.out h2 x1 x2
            simp only [hz] at hrv
            rw [hz] at HGv
            have HRv := hid hrv
            have k1 := ((Turn.refl (fun _ => False) W2).drew.cell (a := ⟨pb, 1, none⟩) (lt_of_cell c1) id).trans c1
            have k2 := ((Turn.refl (fun _ => False) W2).drew.cell (a := ⟨pb, 2, none⟩) (lt_of_cell c2) id).trans c2
            clear hz hrv
            go_wp2_with fail
            have HPbr : Hid (pb ≠ fb ∧ pb ≠ rmb) := hid ⟨fun e => HPb.out fb (.inr (.inr (.inl rfl))) e.symm, fun e => HPb.out rmb (.inr (.inr (.inr rfl))) e.symm⟩
            go_region_held3 (fun w' => w'.cell? ⟨pb, 1, none⟩ = some (.int .i64 x1) ∧ w'.cell? ⟨pb, 2, none⟩ = some (.int .i64 x2))
              (first | exact ⟨k1, k2⟩ | exact ⟨k16, k26⟩ | exact ⟨k17, k27⟩ | exact ⟨k18, k28⟩ | go_keep)
              (first | (go_at_call 27; refine HGv.out.mono ?_; rintro e w6 ⟨rfl, fr6, hg6, ha6⟩; obtain ⟨vs6, htw6⟩ := HTd.out.pooled ha6; have HTw6 := hid htw6; have HG6 := hid hg6; obtain ⟨_, _, t6, _⟩ := ha6; have k16 := (t6.cell (a := ⟨pb, 1, none⟩) (lt_of_cell k1) (fun e => HPbf.out pb e rfl)).trans k1; have k26 := (t6.cell (a := ⟨pb, 2, none⟩) (lt_of_cell k2) (fun e => HPbf.out pb e rfl)).trans k2; clear t6 htw6 hg6) | (go_at_call 28; refine (HRv.out _ HTw6.out.ref).mono ?_; rintro e w7 ⟨rfl, hr7, t7⟩; have HTw7 := hid (HTw6.out.refd hr7 t7); have HBr := hid (bareB z w7 (HL.out.turned0 HTw7.out.turn)); have k17 := (t7.cell (a := ⟨pb, 1, none⟩) (lt_of_cell k16) (fun e => e.elim HPbr.out.1 HPbr.out.2)).trans k16; have k27 := (t7.cell (a := ⟨pb, 2, none⟩) (lt_of_cell k26) (fun e => e.elim HPbr.out.1 HPbr.out.2)).trans k26; clear t7 hr7) | (go_at_call 22; refine HBr.out.mono ?_; rintro e w8 ⟨rfl, t8⟩; have HTw8 := hid (HTw7.out.turned t8); have k18 := (t8.cell (a := ⟨pb, 1, none⟩) (lt_of_cell k17) id).trans k17; have k28 := (t8.cell (a := ⟨pb, 2, none⟩) (lt_of_cell k27) id).trans k27; clear t8))
            all_goals go_wp2_with fail
            all_goals go_meet
            all_goals exact ⟨_, _, _, _, HTw8, HG6, HBg⟩
      case rest =>
        obtain ⟨vs2, fr2, tk2, g2, HTw2, HG2, HB2⟩ := hcut
        clear HTw1 hG hB HPb c0 c1 c2
        have HCn := hid (cntFree_left HB2.out HG2.out)
        have hlf : ∀ k, k < 7 → (fr2 k).length ≤ 256 := fun k hk => HG2.out.len (by omega) k hk
        have HLf := hid hlf
        have HPl := hid (left_is HTw2.out.pool (fun k hk => by have := hlf k hk; show (fr2 k).length ≤ 1000; omega))
        have HRl := hid (refLeft_is HTw2.out.ref h2)
        rw [HCn.out] at HRl
        have hnn : ((leftOf fr2) != leftOf fr2) = false := by simp
        have HFr := hid (free_any HTw2.out.pool HG2.out (by show (n : Int) ≤ 256; omega))
        clear hlf
        go_wp2_with fail
        refine HPl.out.mono ?_
        rintro e w6 ⟨rfl, rfl⟩
        go_wp2_with fail
        refine HRl.out.mono ?_
        rintro e w6 ⟨rfl, rfl⟩
        go_wp2_with fail
        refine HFr.out.mono ?_
        rintro e w7 ⟨l7, a7, cap7, hl7, rfl, hrow7, t7⟩
        have HTw7 := hid (HTw2.out.turned t7)
        have HL7 := hid hl7
        have hrow7' : RowBk w7 a7 l7 := hrow7.imp id (fun ⟨g, h1, _, h2, h3⟩ => ⟨g, h1, h2, h3⟩)
        have HRow7 := hid hrow7'
        clear hrow7 hrow7' hl7 t7 HTw2 HFr HPl HRl
        go_wp2_with fail
        refine (refFree_any HTw7.out.ref HG2.out HB2.out h2).mono ?_
        rintro e w8 ⟨l8, a8, cap8, hl8, rfl, hrow8, t8⟩
        obtain rfl : l7 = l8 := FreeOf.alike HG2.out HG2.out (fun _ => Iff.rfl) HL7.out hl8
        have HTw8 := hid (HTw7.out.turned t8)
        have hrow8' : RowBk w8 a8 l7 := hrow8.imp id (fun ⟨g, h1, _, h2, h3⟩ => ⟨g, h1, h2, h3⟩)
        have hrow9' : RowBk w8 a7 l7 := HRow7.out.imp id (fun ⟨g, h1, h2, h3⟩ => ⟨g, h1, Nat.lt_of_lt_of_le h2 t8.size, h3.turned t8 h2 id⟩)
        have hll : l7.length ≤ 1000000 := by
          have h1 := hl8.1.length_eq
          have h2 := listTo_len (fr := fr2) HLf.out (k := 7) (by omega)
          omega
        have HSame := hid (sameBlocks_same l7 a7 a8 cap7 cap8 hll hrow9' hrow8')
        clear hrow8 hrow8' hrow9' hl8 t8 HTw7 HL7 HRow7 hll
        go_wp2_with fail
        refine HSame.out.mono ?_
        rintro e w9 ⟨rfl, t9⟩
        have HTw9 := hid (HTw8.out.turned t9)
        clear t9 HTw8 HSame
        go_wp2_with fail
        go_roundg (gk - 1)
        case measure => omega
        case rel => exact ⟨j + 1, _, _, _, _, by omega, by go_num, HTw9, HG2, HB2⟩
    · have hlt' : ¬ (j : Int) < xs.length := by omega
      go_wp2_with fail
      go_ret
      exact ⟨rfl, hTw.out.turn⟩
end Go.Proofs.YtiohpmcedfbcgabDoor
