/- BuddyBack walked: true, and nothing that was there turns. Conditions: the variable errors.errorType holds what is laid; the arguments lie in memory. -/
import Derived.Test.YtiohpmcedfbcgaaDoorTakenS
import Derived.Test.YtiohpmcedfbcgaaDoorBlocksEq
import Derived.Test.YtiohpmcedfbcgaaDoorTell
import Derived.Deep.RegionWith
import Derived.Deep.LoopGhost
import Derived.Deep.DeepCutAuto
import Derived.Deep.CutBlock
import Derived.Outline
namespace Go.Proofs.YtiohpmcedfbcgaaDoor
open Go.RowKit
set_option linter.unusedVariables false

/-- Ints lie from off on in block b. -/
def OrdAt (w : World) (b off : Nat) (xs : List Int) : Prop := ∀ j x, xs[j]? = some x → w.cell? ⟨b, off + j, none⟩ = some (.int .i64 x)

theorem held_le {n : Int} {fr : Fr} {tk held : List Bk} (hg : Good n fr tk) (hn0 : 0 ≤ n) (hn : n ≤ 256) (hp : held.Perm tk) : held.length ≤ 256 := by
  have h1 := hg.sum hn0
  have h2 : (tk.length : Int) ≤ sumSz tk := by
    have : ∀ l : List Bk, (l.length : Int) ≤ sumSz l := by
      intro l
      induction l with
      | nil => simp [sumSz]
      | cons t l ih =>
        have := sz_pos t.2
        unfold sumSz at *
        simp only [List.map_cons, List.sum_cons, List.length_cons]
        omega
    exact this tk
  have h3 : held.length = tk.length := hp.length_eq
  have h4 : 0 ≤ sumSz (listTo fr 7) := by have := len_frames (listTo fr 7); omega
  omega

set_option maxRecDepth 100000 in
theorem back_many (nn : Int) (a : Option Addr) (n cap : Nat) (a2 : Option Addr) (n2 cap2 : Nat) (w : World) (h : 60 < n ∨ 60 < n2) (hm : n ≤ 9223372036854775807) (hm2 : n2 ≤ 9223372036854775807) :
    Calls Tryd.prog 8 #[.int .i64 nn, .slice a n cap, .slice a2 n2 cap2] w fun e w' => e = .returned (.bool true) ∧ Turn (fun _ => False) w w' := by
  by_cases h1 : 60 < n
  · have h' : (60 : Int) < n := by omega
    clear h
    go_enter Tryd.func8, Tryd.ntmps8
    go_wp2_with fail
    all_goals go_ret
    all_goals exact ⟨rfl, Turn.refl _ _⟩
  · have h' : decide ((60 : Int) < n) = false := by rw [decide_eq_false_iff_not]; omega
    have h'' : (60 : Int) < n2 := by omega
    clear h
    go_enter Tryd.func8, Tryd.ntmps8
    go_wp2_with fail
    all_goals go_ret
    all_goals exact ⟨rfl, Turn.refl _ _⟩

set_option maxHeartbeats 40000000 in
set_option maxRecDepth 100000 in
theorem back_few (nn : Int) (a : Option Addr) (xs : List (Bool × Int)) (cap : Nat) (a2 : Option Addr) (ys : List Int) (cap2 : Nat) (W : World) (hL : Laid W) (hl : xs.length ≤ 60) (hl2 : ys.length ≤ 60)
    (hc : xs ≠ [] → ∃ b off, a = some ⟨b, off, none⟩ ∧ MovesAt W b off xs ∧ b < W.heap.size) (hc2 : ys ≠ [] → ∃ b off, a2 = some ⟨b, off, none⟩ ∧ OrdAt W b off ys ∧ b < W.heap.size) :
    Calls Tryd.prog 8 #[.int .i64 nn, .slice a xs.length cap, .slice a2 ys.length cap2] W fun e w' => e = .returned (.bool true) ∧ Turn (fun _ => False) W w' := by
  have HC := hid hc
  have HC2 := hid hc2
  have HL := hid hL
  have hl1 : decide ((60 : Int) < xs.length) = false := by rw [decide_eq_false_iff_not]; omega
  have hl3 : decide ((60 : Int) < ys.length) = false := by rw [decide_eq_false_iff_not]; omega
  clear hc hc2 hL
  go_enter Tryd.func8, Tryd.ntmps8
  go_wp2_with fail
  refine (pooled_any W).mono ?_
  rintro e w1 ⟨rfl, t1⟩
  have HT1 := hid t1
  clear t1
  go_wp2_with fail
  refine (pick_some nn 200 w1 (by decide) (by decide)).mono ?_
  rintro e w2 ⟨K, hK0, hK1, rfl, rfl⟩
  go_wp2_with fail
  refine (new_any (1 + K) _ (by omega) (by omega)).mono ?_
  rintro e w2 ⟨p, mb, vs, fr, rfl, hp, hg, ht, hn⟩
  obtain ⟨n, hnn⟩ : ∃ n : Int, 1 + K = n := ⟨_, rfl⟩
  rw [hnn] at hp hg
  rw [hnn]
  have hn1 : 1 ≤ n := by omega
  have hn2 : n ≤ 200 := by omega
  have HP := hid hp
  have HG := hid hg
  have HT2 := hid ht
  have HN := hid hn
  clear hp hg ht hn hnn hK0 hK1
  go_wp2_with fail
  refine (new_any n _ (by omega) (by omega)).mono ?_
  rintro e w3 ⟨pq, mq, vq, fq, rfl, hp, hg, ht, hn⟩
  have hWp : ∀ k, k < W.heap.size → ¬ Foot p mb vs k := fun k hk hf => by have h1 := HN.out k hf; have h2 := HT1.out.size; omega
  have HT3 : Hid (Turn (fun _ => False) W w3) := hid ((HT1.out.trans HT2.out).trans ht)
  have HP3 : Hid (PoolS (Foot p mb vs) w3 w3 p mb vs ⟨n, fr, []⟩) := hid ⟨HP.out.turned ht (fun _ _ => id), Turn.refl _ _, fun k hk => .inl hk⟩
  have HQ3 : Hid (PoolAt w3 pq mq vq ⟨n, fq, []⟩) := hid hp
  have HQG := hid hg
  have HD : Hid (∀ k, Foot pq mq vq k → ¬ Foot p mb vs k) := hid (fun k hk hf => by have h1 := hn k hk; have h2 := HP.out.foot_lt k hf; omega)
  have HWp := hid hWp
  have HC3 : Hid (xs ≠ [] → ∃ b off, a = some ⟨b, off, none⟩ ∧ MovesAt w3 b off xs ∧ b < w3.heap.size ∧ ¬ Foot p mb vs b) := hid (fun hne => by
    obtain ⟨b, off, e1, e2, e3⟩ := HC.out hne
    exact ⟨b, off, e1, e2.turned HT3.out e3 id, Nat.lt_of_lt_of_le e3 HT3.out.size, hWp b e3⟩)
  have HL3 := hid (HL.out.turned0 HT3.out)
  have HLp : Hid (¬ Foot p mb vs 1) := hid (hWp _ HL.out.lt)
  clear hp hg ht hn hWp HC HP
  go_wp2_with fail
  refine (takenS_any HP3.out HG.out rfl (show n ≤ 256 by omega) a xs cap hl HC3.out).mono ?_
  rintro e w4 ⟨v0, held0, vs3, fr3, tk3, rfl, hH⟩
  obtain ⟨ah, ch, rfl⟩ := hH.blks.slice
  have hle0 : held0.length ≤ 256 := held_le hH.good (show 0 ≤ n by omega) (show n ≤ 256 by omega) hH.perm
  have HH := hid hH
  clear hH HP3 HG HC3 HT2 HN
  go_wp2_with fail
  go_loopg [11, 13] (held0.length) (fun g hv iv wr => ∃ (held : List Bk) (v : Value) (vs' : Nat → Value) (fr' : Fr) (tk : List Bk) (i : Nat), held.length = g ∧ i + g = held0.length ∧ hv = v ∧ iv = .int .i64 i ∧ Hid (HeldS (Foot p mb vs) w3 wr p mb vs' ⟨n, fr', tk⟩ v held))
  case atStart => exact ⟨held0, _, vs3, fr3, tk3, 0, rfl, by omega, rfl, rfl, HH⟩
  case round =>
    clear HH
    obtain ⟨held, v, vs', fr', tk, i, hlen, hi, rfl, rfl, hH⟩ := hrel
    obtain ⟨a6, c6, e6⟩ := hH.out.blks.slice
    subst e6
    subst hlen
    by_cases hpos : 0 < held.length
    · have hpos' : (0 : Int) < held.length := by omega
      have he : held ≠ [] := by rintro rfl; simp at hpos
      have hi0 : i ≤ 256 := by omega
      have hhl : held.length ≤ 256 := by omega
      obtain ⟨g, rfl⟩ : ∃ g, a6 = some ⟨g, 0, none⟩ := by
        rcases hH.out.blks.shape with ⟨_, h0⟩ | ⟨g, cap, h0, _⟩
        · exact absurd h0 he
        · cases h0; exact ⟨g, rfl⟩
      obtain ⟨hcap1, hcap2, hgl, hat⟩ : held.length ≤ c6 ∧ c6 ≤ maxLen ∧ g < wr.heap.size ∧ BksAt wr g 0 held := by
        rcases hH.out.blks.shape with ⟨_, h0⟩ | ⟨g', cap, h0, r⟩
        · exact absurd h0 he
        · cases h0; exact r
      unfold maxLen at hcap2
      have HAt := hid hat
      clear he hat
      go_upto_if 68 with fail
      go_cut [14] (fun kv wx => ∃ k : Nat, k < held.length ∧ kv = .int .i64 k ∧ wx = wr)
      case first =>
        by_cases hy : 0 < ys.length
        · have hy' : (0 : Int) < ys.length := by omega
          obtain ⟨b, off, rfl, hO, hb⟩ := HC2.out (by rintro rfl; simp at hy)
          obtain ⟨y, hyy⟩ : ∃ y, ys[i % ys.length]? = some y := ⟨_, List.getElem?_eq_getElem (Nat.mod_lt _ hy)⟩
          have d0 : wr.cell? ⟨b, off + i % ys.length, none⟩ = some (.int .i64 y) := (hH.out.pool.turn.cell (a := ⟨b, off + i % ys.length, none⟩) (Nat.lt_of_lt_of_le hb HT3.out.size) (HWp.out b hb)).trans ((HT3.out.cell (a := ⟨b, off + i % ys.length, none⟩) hb id).trans (hO _ _ hyy))
          have htm : (i : Int).tmod (ys.length : Int) = ((i % ys.length : Nat) : Int) := by
            rw [Int.tmod_eq_emod_of_nonneg (by omega)]; rfl
          have hlt2 : i % ys.length < ys.length := Nat.mod_lt _ hy
          have hlt3 : ((i % ys.length : Nat) : Int) < ys.length := by omega
          have hnz : ((ys.length : Int) == 0) = false := beq_eq_false_iff_ne.2 (by omega)
          clear hO hyy
          go_wp2_with fail
          refine (pick_some y held.length wr (by omega) (by omega)).mono ?_
          rintro e w2 ⟨K2, hK0, hK1, rfl, rfl⟩
          go_wp2_with fail
          go_meet
          exact ⟨K2.toNat, by omega, by rw [Int.toNat_of_nonneg hK0], rfl⟩
        · have hy' : ¬ (0 : Int) < ys.length := by omega
          go_wp2_with fail
          go_meet
          exact ⟨0, hpos, rfl, rfl⟩
      case rest =>
        obtain ⟨k, hkl, rfl, rfl⟩ := hcut
        obtain ⟨x, hx⟩ : ∃ x, held[k]? = some x := ⟨_, List.getElem?_eq_getElem hkl⟩
        obtain ⟨bb, oo⟩ := x
        obtain ⟨e0, e1⟩ := HAt.out k _ hx
        simp only [Nat.zero_add] at e0 e1
        obtain ⟨hmg, hpe⟩ := perm_erase hH.out.perm hH.out.pool.pool.mp.nodup hx
        have HX := hid hx
        have HMG := hid hmg
        have HPE := hid hpe
        have hkl' : (k : Int) < held.length := by omega
        clear hx hmg hpe
        have T1 : Turn (fun _ => False) wc (wc.alloc (.cells #[.int .i64 bb, .int .i64 (oo : Int)] 97)) := (Turn.refl _ _).alloc _
        have HT1a := hid T1
        have HGive := hid (give_ok (hH.out.pool.pool.turned T1 (fun _ _ => id)) bb oo HMG.out hH.out.good (show n ≤ 256 by omega))
        have f0 : (wc.alloc (.cells #[.int .i64 bb, .int .i64 (oo : Int)] 97)).cell? ⟨wc.heap.size, 0, none⟩ = some (.int .i64 bb) := by simp
        have f1 : (wc.alloc (.cells #[.int .i64 bb, .int .i64 (oo : Int)] 97)).cell? ⟨wc.heap.size, 1, none⟩ = some (.int .i64 (oo : Int)) := by simp
        have HH1 : Hid (HeldS (Foot p mb vs) w3 (wc.alloc (.cells #[.int .i64 bb, .int .i64 (oo : Int)] 97)) p mb vs' ⟨n, fr', tk⟩ (.slice (some ⟨g, 0, none⟩) held.length c6) held) := hid ⟨hH.out.pool.turned T1, hH.out.good, hH.out.blks.turned T1 (fun _ _ => id), hH.out.own, hH.out.perm⟩
        have hnf : ¬ Foot p mb vs' wc.heap.size := fun hf => by have := hH.out.pool.pool.foot_lt _ hf; omega
        clear T1
        go_upto_region 20 with fail
        obtain ⟨ab, hab⟩ : ∃ x, wc.heap.size = x := ⟨_, rfl⟩
        rw [hab] at f0 f1 hnf
        rw [hab]
        clear hab hH HAt e0 e1 HT1a
        generalize wc.alloc (.cells #[.int .i64 bb, .int .i64 (oo : Int)] 97) = w6 at *
        have hnf' := hid hnf
        clear hnf
        go_cut [99] (fun v wx => v = .bool false ∧ ∃ (vs2 : Nat → Value) (fr2 : Fr), Hid (PoolS (Foot p mb vs) w3 wx p mb vs2 ⟨n, fr2, mdel tk bb⟩) ∧ Hid (Good n fr2 (mdel tk bb)) ∧ Hid (BlksAt wx (.slice (some ⟨g, 0, none⟩) held.length c6) held) ∧ Hid (w3.heap.size ≤ g ∧ ¬ Foot p mb vs2 g))
        case first =>
          go_wp2_with fail
          refine HGive.out.mono ?_
          rintro e w7 ⟨rfl, fr5, hg5, ha5⟩
          obtain ⟨vs5, hp5, hb5, ho5⟩ := HH1.out.got ha5
          obtain ⟨_, _, t5, _⟩ := ha5
          have i0 := (t5.cell (a := ⟨ab, 0, none⟩) (lt_of_cell f0) hnf'.out).trans f0
          have i1 := (t5.cell (a := ⟨ab, 1, none⟩) (lt_of_cell f1) hnf'.out).trans f1
          have HP5 := hid hp5
          have HB5 := hid hb5
          have HO5 := hid (ho5 g rfl)
          have HG5 : Hid (Good n fr5 (mdel tk bb)) := hid hg5
          have HMis := hid (give_missing hp5.pool bb (oo : Int) (show mget (mdel tk bb) bb = none by rw [mget_mdel, if_pos rfl]))
          clear hp5 hb5 ho5 hg5 t5 HGive HH1
          go_wp2_with fail
          refine HMis.out.mono ?_
          rintro e w8 ⟨rfl, rfl⟩
          go_wp2_with fail
          refine (tell_errno 7 _ (HL3.out.turned HP5.out.turn HLp.out)).mono ?_
          rintro e w9 ⟨rfl, t9⟩
          have HT9 := hid t9
          clear t9
          go_wp2_with fail
          go_meet
          exact ⟨rfl, vs5, fr5, hid (HP5.out.turned HT9.out), HG5, hid (HB5.out.turned HT9.out (fun _ _ => id)), HO5⟩
        case rest =>
          obtain ⟨rfl, vs2, fr2, HP2, HG2, HB2, HO2⟩ := hcut
          clear HGive HH1 f0 f1 hnf'
          have hb2 := HB2.out
          have hp2 := HP2.out
          have ho2 := HO2.out
          have hat2 : g < wc.heap.size ∧ BksAt wc g 0 held := by
            rcases hb2.shape with ⟨h0, _⟩ | ⟨g', cap, h0, _, _, r1, r2⟩
            · cases h0
            · cases h0; exact ⟨r1, r2⟩
          have hgl2 := hat2.1
          have hTa : Turn (fun _ => False) wc (wc.alloc (.cells #[] 97)).drew := ((Turn.refl _ _).alloc _).drew
          have HTa := hid hTa
          have HO1 : Hid (BlksAt (wc.alloc (.cells #[] 97)).drew (.slice (some ⟨wc.heap.size, 0, none⟩) 0 0) []) := hid (World.ownsRow_lit wc #[] 0 (Nat.zero_le _) (Nat.zero_le _) rfl).drew
          have HC1 : Hid (BksAt (wc.alloc (.cells #[] 97)).drew g 0 (held.take k)) := hid ((hat2.2.turned hTa hgl2 id).take k)
          have HC2 : Hid (∀ w3, Turn (fun j => (Value.slice (some ⟨wc.heap.size, 0, none⟩) 0 0).ownBlock = some j) (wc.alloc (.cells #[] 97)).drew w3 → BksAt w3 g 0 held) := hid (fun w3 t3 => (hat2.2.turned hTa hgl2 id).turned t3 (Nat.lt_of_lt_of_le hgl2 hTa.size) (fun e => by simp only [Value.ownBlock, Option.some.injEq] at e; omega))
          have HTk : Hid ((held.take k).length = k) := hid (by rw [List.length_take]; omega)
          have HDr : Hid ((held.drop (k + 1)).length = held.length - (k + 1)) := hid (by rw [List.length_drop])
          have HM1 : Hid (0 < (held.take k).length ∨ (Value.slice (some ⟨wc.heap.size, 0, none⟩) 0 0) ≠ .slice none 0 0) := hid (.inr (by simp))
          have HM3 : Hid (∀ g3 z3, 0 < (held.drop (k + 1)).length ∨ (Value.slice (some ⟨g3, 0, none⟩) k z3) ≠ .slice none 0 0) := hid (fun _ _ => .inr (by simp))
          have HLL : Hid (([] : List Bk).length + (held.take k).length ≤ 1000000) := hid (by rw [HTk.out]; simp; omega)
          have HLL3 : Hid (([] ++ held.take k).length + (held.drop (k + 1)).length ≤ 1000000) := hid (by rw [HDr.out, List.nil_append, HTk.out]; omega)
          have HN1 : Hid (([] : List Bk).length + (held.take k).length = k) := hid (by rw [HTk.out]; simp)
          have HN2 : Hid (([] ++ held.take k).length + (held.drop (k + 1)).length = held.length - 1) := hid (by rw [HDr.out, List.nil_append, HTk.out]; omega)
          clear hp2 hb2 ho2 hat2 hTa
          have htl : (k : Int) ≤ held.length := by omega
          have hw1 : IntKind.i64.wrap ((k : Int) + 1) = (k : Int) + 1 := IntWalk.i64_in _ (by omega)
          have hw2 : ((k : Int) + 1).toNat = k + 1 := by omega
          have hw3 : (0 : Int) ≤ (k : Int) + 1 := by omega
          have hw4 : (k : Int) ≤ (k : Int) + 1 := by omega
          have htc : (k : Int) ≤ c6 := by omega
          have htl1 : (k : Int) + 1 ≤ held.length := by omega
          have htc1 : (k : Int) + 1 ≤ c6 := by omega
          go_wp2_with fail
          by_cases hct : c6 = k + 1
          · have hkl1 : held.length = k + 1 := by omega
            have HC3 : Hid (∀ w3, Turn (fun j => (Value.slice (some ⟨wc.heap.size, 0, none⟩) 0 0).ownBlock = some j) (wc.alloc (.cells #[] 97)).drew w3 → BksAt w3 g 0 (held.drop (k + 1))) := hid (fun w3 _ i t ht => by rw [List.drop_eq_nil_of_le (by omega)] at ht; simp at ht)
            clear hkl1
            go_region_law (first | (refine step_append_bks rfl _ _ rfl (.slice (some ⟨wc.heap.size, 0, none⟩) 0 0) [] rfl HO1.out g 0 _ (held.take k) k HTk.out rfl HC1.out HM1.out HLL.out k HN1.out ?_; intro g3 z3 w3 hi3 t3 ho3; have HI3 := hid hi3; have HT3 := hid t3; have HO3 := hid ho3; clear hi3 t3 ho3) | (refine step_append_bks rfl _ _ rfl (.slice (some ⟨g3, 0, none⟩) k z3) _ rfl HI3.out g 0 _ (held.drop (k + 1)) (held.length - (k + 1)) HDr.out rfl (HC3.out w3 HT3.out) (HM3.out g3 z3) HLL3.out (held.length - 1) HN2.out ?_; intro g4 z4 w4 hi4 t4 ho4; have HI4 := hid hi4; have HT4 := hid t4; have HO4 := hid ho4; clear hi4 t4 ho4))
            all_goals
              go_wp2_with fail
              go_roundg (held.length - 1)
              case measure => omega
              case rel =>
                obtain ⟨u1, u2⟩ := two_appends HTa.out HT3.out HO3.out HT4.out HO4.out
                have hpool := HP2.out.fresh u1
                refine ⟨held.take k ++ held.drop (k + 1), _, vs2, fr2, mdel tk bb, i + 1, by rw [List.length_append, HTk.out, HDr.out]; omega, by omega, rfl, by go_num, hid ⟨hpool, HG2.out, ?_, fun g hg => ?_, HPE.out⟩⟩
                · have := HI4.out
                  rw [List.nil_append] at this
                  exact this
                · cases hg
                  exact ⟨Nat.le_trans HP2.out.turn.size u2, fun hf => by have := HP2.out.pool.foot_lt g4 hf; omega⟩
          · have HC3 : Hid (∀ w3, Turn (fun j => (Value.slice (some ⟨wc.heap.size, 0, none⟩) 0 0).ownBlock = some j) (wc.alloc (.cells #[] 97)).drew w3 → BksAt w3 g ((k + 1) * 2) (held.drop (k + 1))) := hid (fun w3 t3 => by have := (HC2.out w3 t3).drop (k + 1); rwa [Nat.zero_add] at this)
            go_region_law (first | (refine step_append_bks rfl _ _ rfl (.slice (some ⟨wc.heap.size, 0, none⟩) 0 0) [] rfl HO1.out g 0 _ (held.take k) k HTk.out rfl HC1.out HM1.out HLL.out k HN1.out ?_; intro g3 z3 w3 hi3 t3 ho3; have HI3 := hid hi3; have HT3 := hid t3; have HO3 := hid ho3; clear hi3 t3 ho3) | (refine step_append_bks rfl _ _ rfl (.slice (some ⟨g3, 0, none⟩) k z3) _ rfl HI3.out g ((k + 1) * 2) _ (held.drop (k + 1)) (held.length - (k + 1)) HDr.out rfl (HC3.out w3 HT3.out) (HM3.out g3 z3) HLL3.out (held.length - 1) HN2.out ?_; intro g4 z4 w4 hi4 t4 ho4; have HI4 := hid hi4; have HT4 := hid t4; have HO4 := hid ho4; clear hi4 t4 ho4))
            all_goals
              go_wp2_with fail
              go_roundg (held.length - 1)
              case measure => omega
              case rel =>
                obtain ⟨u1, u2⟩ := two_appends HTa.out HT3.out HO3.out HT4.out HO4.out
                have hpool := HP2.out.fresh u1
                refine ⟨held.take k ++ held.drop (k + 1), _, vs2, fr2, mdel tk bb, i + 1, by rw [List.length_append, HTk.out, HDr.out]; omega, by omega, rfl, by go_num, hid ⟨hpool, HG2.out, ?_, fun g hg => ?_, HPE.out⟩⟩
                · have := HI4.out
                  rw [List.nil_append] at this
                  exact this
                · cases hg
                  exact ⟨Nat.le_trans HP2.out.turn.size u2, fun hf => by have := HP2.out.pool.foot_lt g4 hf; omega⟩

    · have hpos' : ¬ (0 : Int) < held.length := by omega
      have he : held = [] := List.length_eq_zero_iff.1 (by omega)
      subst he
      have htk : tk = [] := hH.out.perm.symm.eq_nil
      subst htk
      have hnn : (n == n) = true := by simp
      go_wp2_with fail
      refine (left_is hH.out.pool.pool (fun k hk => Nat.le_trans (hH.out.good.len (show n ≤ 256 by omega) k hk) (by decide))).mono ?_
      rintro e w5 ⟨rfl, rfl⟩
      have hl5 : leftOf (⟨n, fr', []⟩ : Pl).fr = n := by
        show leftOf fr' = n
        rw [hH.out.good.left (show 0 ≤ n by omega)]
        simp [sumSz]
      rw [hl5]
      go_wp2_with fail
      refine (free_any hH.out.pool.pool hH.out.good (show n ≤ 256 by omega)).mono ?_
      rintro e w5 ⟨fl, af, cf, hf, rfl, hat, t5⟩
      have HQ5 := hid ((HQ3.out.turned hH.out.pool.turn HD.out).turned t5 (fun _ _ => id))
      have HF5 := hid hf
      have HA5 := hid hat
      have HT5 := hid t5
      clear hf hat t5
      go_wp2_with fail
      refine (free_any HQ5.out HQG.out (show n ≤ 256 by omega)).mono ?_
      rintro e w6 ⟨fl2, af2, cf2, hf2, rfl, hat2, t6⟩
      have hfe : fl = fl2 := FreeOf.eq hH.out.good HQG.out (fun _ => Iff.rfl) HF5.out hf2
      subst hfe
      have hfl : fl.length ≤ 1792 := by
        rw [HF5.out.1.length_eq]
        exact listTo_len (fun k hk => hH.out.good.len (show n ≤ 256 by omega) k hk) (Nat.le_refl _)
      have HEq := hid (equal_same (w := w6) fl af af2 cf cf2 (by omega) (HA5.out.imp id fun ⟨g, e1, e2, e3, e4⟩ => ⟨g, e1, Nat.lt_of_lt_of_le e3 t6.size, e4.turned t6 e3 id⟩) (hat2.imp id fun ⟨g, e1, e2, e3, e4⟩ => ⟨g, e1, e3, e4⟩))
      have HT6 := hid t6
      clear t6 hat2 hf2
      go_wp2_with fail
      refine HEq.out.mono ?_
      rintro e w7 ⟨rfl, t7⟩
      have HT7 := hid t7
      clear t7
      go_wp2_with fail
      go_ret
      exact ⟨rfl, (((HT3.out.trans' hH.out.pool.turn (fun k hk hf => HWp.out k hk hf)).trans HT5.out).trans HT6.out).trans HT7.out⟩
end Go.Proofs.YtiohpmcedfbcgaaDoor
