/- The laws' 'taken': moves of a pool, one behind the other. Conditions: the pool is the call's own and good, of 1 to 256 frames; the moves lie in memory that was there. -/
import Derived.Test.YtiohpmcedfbcgabDoorPooled
import Derived.Test.YtiohpmcedfbcgabDoorPick
namespace Go.Proofs.YtiohpmcedfbcgabDoor
open Go.RowKit
set_option linter.unusedVariables false

/-- A list of moves lies from off on in block b. -/
def MovesAt (w : World) (b off : Nat) (xs : List (Bool × Int)) : Prop :=
  ∀ j m, xs[j]? = some m → w.cell? ⟨b, off + j * 2, none⟩ = some (.bool m.1) ∧ w.cell? ⟨b, off + j * 2 + 1, none⟩ = some (.int .i64 m.2)
theorem MovesAt.turned {w w' : World} {b off : Nat} {xs : List (Bool × Int)} {S : Nat → Prop} (h : MovesAt w b off xs) (t : Turn S w w') (hb : b < w.heap.size) (hn : ¬ S b) : MovesAt w' b off xs :=
  fun j f hf => ⟨(t.cell (a := ⟨b, off + j * 2, none⟩) hb hn).trans (h j f hf).1, (t.cell (a := ⟨b, off + j * 2 + 1, none⟩) hb hn).trans (h j f hf).2⟩

/-- A pool of the call's own, and the blocks that are held of it, in a slice of the call's own. -/
structure Held (w0 w : World) (p mb : Nat) (vs : Nat → Value) (q : Pl) (v : Value) (held : List Bk) : Prop where
  pool : PoolOf w0 w p mb vs q
  good : Good q.n q.fr q.tk
  blks : BlksAt w v held
  own : ∀ g, v.ownBlock = some g → w0.heap.size ≤ g ∧ ¬ Foot p mb vs g
  perm : held.Perm q.tk

theorem foot_after {w : World} {p mb : Nat} {vs vs2 : Nat → Value} {g : Nat} (h : ¬ Foot p mb vs g) (hg : g < w.heap.size) (h2 : ∀ j, Foot p mb vs2 j → Foot p mb vs j ∨ w.heap.size ≤ j) : ¬ Foot p mb vs2 g := fun hf => by
  rcases h2 g hf with h3 | h3
  · exact h h3
  · omega

/-- One more is taken. -/
theorem Held.got {w0 w w1 : World} {p mb : Nat} {vs : Nat → Value} {q q2 : Pl} {v : Value} {held : List Bk} (h : Held w0 w p mb vs q v held) (ha : PoolAfter p mb vs w w1 q2) :
    ∃ vs', PoolOf w0 w1 p mb vs' q2 ∧ BlksAt w1 v held ∧ (∀ g, v.ownBlock = some g → w0.heap.size ≤ g ∧ ¬ Foot p mb vs' g) := by
  obtain ⟨vs', hp, t, g2⟩ := ha
  have hlt : ∀ g, v.ownBlock = some g → g < w.heap.size := fun g hg => (h.blks.lt g hg).2
  refine ⟨vs', ⟨hp, h.pool.turn.trans' t (fun k hk hf => by have := h.pool.new k hf; omega), fun k hk => ?_⟩, h.blks.turned t (fun g hg hf => (h.own g hg).2 hf), fun g hg => ⟨(h.own g hg).1, foot_after (h.own g hg).2 (hlt g hg) g2⟩⟩
  rcases g2 k hk with h1 | h1
  · exact h.pool.new k h1
  · exact Nat.le_trans h.pool.turn.size h1

theorem perm_erase {held tk : List Bk} (hp : held.Perm tk) (hn : MNodup tk) {k : Nat} {b : Int} {o : Nat} (h : held[k]? = some (b, o)) : mget tk b = some o ∧ (held.take k ++ held.drop (k + 1)).Perm (mdel tk b) := by
  have hm : (b, o) ∈ tk := hp.mem_iff.1 (List.mem_of_getElem? h)
  have hg := mget_mem hn hm
  refine ⟨hg, ?_⟩
  have hk := (List.getElem?_eq_some_iff.1 h)
  obtain ⟨hlt, he⟩ := hk
  have e1 : held = held.take k ++ (b, o) :: held.drop (k + 1) := by
    rw [← he, List.getElem_cons_drop]; simp
  have p1 : ((b, o) :: (held.take k ++ held.drop (k + 1))).Perm held := by
    conv => rhs; rw [e1]
    exact List.perm_middle.symm
  exact List.Perm.cons_inv ((p1.trans hp).trans (mdel_put hn hg))

theorem Held.moved {w0 w w2 : World} {p mb : Nat} {vs : Nat → Value} {q : Pl} {v v2 : Value} {held held2 : List Bk} (h : Held w0 w p mb vs q v held) (t : Turn (fun j => v.ownBlock = some j) w w2) (hb : BlksAt w2 v2 held2) (ho : ∀ g, v2.ownBlock = some g → v.ownBlock = some g ∨ w.heap.size ≤ g) :
    PoolOf w0 w2 p mb vs q ∧ BlksAt w2 v2 held2 ∧ ∀ g, v2.ownBlock = some g → w0.heap.size ≤ g ∧ ¬ Foot p mb vs g := by
  refine ⟨⟨h.pool.pool.turned t (fun k hf hs => (h.own k hs).2 hf), h.pool.turn.trans' t (fun k hk hs => by have := (h.own k hs).1; omega), h.pool.new⟩, hb, fun g hg => ?_⟩
  rcases ho g hg with h1 | h1
  · exact h.own g h1
  · refine ⟨Nat.le_trans h.pool.turn.size h1, fun hf => ?_⟩
    have : g < w.heap.size := by
      rcases hf with rfl | rfl | ⟨j, hj, hv⟩
      · exact h.pool.pool.lt
      · exact h.pool.pool.mp.lt
      · exact ((h.pool.pool.fi j hj).lt g hv).2
    omega

theorem PoolAt.foot_lt {w : World} {p mb : Nat} {vs : Nat → Value} {q : Pl} (h : PoolAt w p mb vs q) (k : Nat) (hf : Foot p mb vs k) : k < w.heap.size := by
  rcases hf with rfl | rfl | ⟨j, hj, hv⟩
  · exact h.lt
  · exact h.mp.lt
  · exact ((h.fi j hj).lt k hv).2
theorem PoolOf.fresh {w0 w w2 : World} {p mb : Nat} {vs : Nat → Value} {q : Pl} (h : PoolOf w0 w p mb vs q) (t : Turn (fun j => w.heap.size ≤ j) w w2) : PoolOf w0 w2 p mb vs q :=
  ⟨h.pool.turned t (fun k hf hs => by have := h.pool.foot_lt k hf; omega), h.turn.trans' t (fun k hk hs => by have := h.turn.size; omega), h.new⟩

/-- Two appends to a slice that has just been made turn nothing that was there. -/
theorem two_appends {w W w3 w4 : World} {g3 g4 n3 z3 : Nat} (ta : Turn (fun _ => False) w W) (t3 : Turn (fun j => (Value.slice (some ⟨w.heap.size, 0, none⟩) 0 0).ownBlock = some j) W w3) (h3 : (Value.slice (some ⟨w.heap.size, 0, none⟩) 0 0).ownBlock = some g3 ∨ W.heap.size ≤ g3)
    (t4 : Turn (fun j => (Value.slice (some ⟨g3, 0, none⟩) n3 z3).ownBlock = some j) w3 w4) (h4 : (Value.slice (some ⟨g3, 0, none⟩) n3 z3).ownBlock = some g4 ∨ w3.heap.size ≤ g4) : Turn (fun j => w.heap.size ≤ j) w w4 ∧ w.heap.size ≤ g4 := by
  have s1 := ta.size
  have s3 := t3.size
  have hg3 : w.heap.size ≤ g3 := by
    rcases h3 with h | h
    · simp only [Value.ownBlock, Option.some.injEq] at h; omega
    · omega
  refine ⟨((ta.mono fun _ _ h => h.elim).trans (t3.mono fun k _ h => ?_)).trans (t4.mono fun k _ h => ?_), ?_⟩
  · simp only [Value.ownBlock, Option.some.injEq] at h; omega
  · simp only [Value.ownBlock, Option.some.injEq] at h; omega
  · rcases h4 with h | h
    · simp only [Value.ownBlock, Option.some.injEq] at h; omega
    · omega

def TakenRes (w0 : World) (p mb : Nat) (n : Int) (e : Ending) (w' : World) : Prop :=
  ∃ v held vs fr tk, e = .returned (.tuple #[v, .bool true]) ∧ Held w0 w' p mb vs ⟨n, fr, tk⟩ v held

set_option maxHeartbeats 8000000 in
set_option maxRecDepth 100000 in
theorem taken_any {w0 w : World} {p mb : Nat} {vs : Nat → Value} {q : Pl} (h : PoolOf w0 w p mb vs q) (hg : Good q.n q.fr q.tk) (hq : q.tk = []) (hn : q.n ≤ 256) (a : Option Addr) (xs : List (Bool × Int)) (cap : Nat) (hl : xs.length ≤ 60)
    (hc : xs ≠ [] → ∃ b off, a = some ⟨b, off, none⟩ ∧ MovesAt w0 b off xs ∧ b < w0.heap.size) :
    Calls Tryd.prog 15 #[.pointer (some ⟨p, 0, none⟩), .slice a xs.length cap] w (TakenRes w0 p mb q.n) := by
  have HP := hid h
  have HG := hid hg
  have HC := hid hc
  have HQ := hid hq
  clear h hg hc hq
  go_enter Tryd.func15, Tryd.ntmps15
  go_wp2_with fail
  go_loopw [6, 7] (fun v i wr => ∃ (j : Nat) (held : List Bk) (vs' : Nat → Value) (fr : Fr) (tk : List Bk), j ≤ xs.length ∧ i = .int .i64 j ∧ held.length ≤ j ∧ Hid (Held w0 wr p mb vs' ⟨q.n, fr, tk⟩ v held)) (fun _ i _ => xs.length - (intOf i).toNat)
  case atStart => exact ⟨0, [], vs, q.fr, q.tk, Nat.zero_le _, rfl, Nat.le_refl _, hid ⟨HP.out, HG.out, BlksAt.empty w, fun g h => (by cases h), by rw [HQ.out]⟩⟩
  case round =>
    clear HP HG HQ
    obtain ⟨j, held, vs', fr, tk, hj, rfl, hhl, hH⟩ := hrel
    by_cases hlt : j < xs.length
    · obtain ⟨m, hm⟩ : ∃ m, xs[j]? = some m := ⟨_, List.getElem?_eq_getElem hlt⟩
      obtain ⟨b, off, rfl, hF, hb⟩ := HC.out (by rintro rfl; simp at hlt)
      obtain ⟨d0, d1⟩ := hF.turned hH.out.pool.turn hb id j _ hm
      obtain ⟨tb, nn⟩ := m
      simp only at d0 d1
      clear hF hm
      obtain ⟨a6, c6, e6⟩ := hH.out.blks.slice
      subst e6
      cases tb with
      | true =>
        obtain ⟨K, hK⟩ : ∃ K, pk nn 7 = K := ⟨_, rfl⟩
        have hK0 : 0 ≤ K := by rw [← hK]; exact pk_nonneg _ _ (by decide)
        have hK1 : K < 7 := by rw [← hK]; exact pk_lt _ _ (by decide)
        have hPk : ∀ w, Calls Tryd.prog 13 #[.int .i64 nn, .int .i64 7] w fun e w' => e = .returned (.int .i64 K) ∧ w = w' := fun w => by rw [← hK]; exact pick_any nn 7 w (by decide) (by decide)
        clear hK
        obtain ⟨k, rfl⟩ := Int.eq_ofNat_of_zero_le hK0
        have HPk := hid hPk
        clear hPk
        go_wp2_with fail
        refine (HPk.out wr).mono ?_
        rintro e w1 ⟨rfl, rfl⟩
        go_wp2_with fail
        refine (alloc_any hH.out.pool.pool k (by omega) hH.out.good hn).mono ?_
        rintro e w1 (⟨rfl, rfl, _⟩ | ⟨k2, base, fr2, _, _, _, _, _, rfl, hno, hg2, ha⟩)
        · go_wp2_with fail
          go_roundw
          case rel => exact ⟨j + 1, held, vs', fr, tk, by omega, by go_num, by omega, hH⟩
          case measure => simp [intOf]; omega
        · obtain ⟨vs2, hp2, hb2, ho2⟩ := hH.out.got ha
          have HP2 := hid hp2
          have HB2 := hid hb2
          have HO2 := hid ho2
          have HG2 := hid hg2
          have HN2 := hid hno
          clear hp2 hb2 ho2 hg2 hno ha
          have HO1 : Hid (BlksAt (w1.alloc (.cells #[.int .i64 base, .int .i64 (k : Int)] 36)) (.slice a6 held.length c6) held) := hid (HB2.out.turned ((Turn.refl (fun _ => False) _).alloc _) (fun _ _ => id))
          have HC1 : Hid (BksAt (w1.alloc (.cells #[.int .i64 base, .int .i64 (k : Int)] 36)) w1.heap.size 0 [(base, k)]) := hid (fun i t ht => by
            cases i with
            | zero => simp at ht; subst ht; exact ⟨by simp, by simp⟩
            | succ i => simp at ht)
          have HLL : Hid (held.length + [((base, k) : Bk)].length ≤ 1000000) := hid (by rw [List.length_singleton]; omega)
          have HM1 : Hid (0 < [((base, k) : Bk)].length ∨ (Value.slice a6 held.length c6) ≠ .slice none 0 0) := hid (.inl (by simp))
          go_wp2_with (at_builtin; refine wpList_append_bks rfl _ _ rfl (.slice a6 held.length c6) _ rfl HO1.out w1.heap.size 0 1 [(base, k)] 1 rfl rfl HC1.out HM1.out HLL.out (held.length + 1) rfl ?_; intro g3 z3 w3 hi3 t3 ho3; have HI3 := hid hi3; have HT3 := hid t3; have HO3 := hid ho3; clear hi3 t3 ho3)
          go_roundw
          case rel =>
            have ho := HO2.out
            have hta : Turn (fun j => (Value.slice a6 held.length c6).ownBlock = some j) w1 w3 := ((Turn.refl _ _).alloc _).trans HT3.out
            have hpool : PoolOf w0 w3 p mb vs2 ⟨q.n, fr2, mput tk base k⟩ := ⟨HP2.out.pool.turned hta (fun k hf hs => (ho k hs).2 hf), HP2.out.turn.trans' hta (fun k hk hs => by have := (ho k hs).1; omega), HP2.out.new⟩
            refine ⟨j + 1, held ++ [(base, k)], vs2, fr2, mput tk base k, by omega, by go_num, by simp; omega, hid ⟨hpool, HG2.out, HI3.out, fun g hg => ?_, ?_⟩⟩
            · cases hg
              rcases HO3.out with h1 | h1
              · exact ho _ h1
              · have h2 := HP2.out.turn.size
                simp only [World.size_alloc] at h1
                refine ⟨by simp only; omega, fun hf => ?_⟩
                have : g3 < w1.heap.size := by
                  rcases hf with e | e | ⟨i, hi, hv⟩
                  · have := HP2.out.pool.lt; simp only at e; omega
                  · have := HP2.out.pool.mp.lt; simp only at e; omega
                  · exact ((HP2.out.pool.fi i hi).lt g3 hv).2
                omega
            · show (held ++ [(base, k)]).Perm (mput tk base k)
              exact (List.perm_append_singleton _ _).trans ((hH.out.perm.cons _).trans (mput_perm HN2.out))
          case measure => simp [intOf]; omega
      | false =>
        by_cases he : held = []
        · subst he
          go_wp2_with fail
          go_roundw
          case rel => exact ⟨j + 1, [], vs', fr, tk, by omega, by go_num, by simp, hH⟩
          case measure => simp [intOf]; omega
        · have hpos : 0 < held.length := List.length_pos_iff.2 he
          have hpos' : (0 : Int) < held.length := by omega
          obtain ⟨g, rfl⟩ : ∃ g, a6 = some ⟨g, 0, none⟩ := by
            rcases hH.out.blks.shape with ⟨_, h0⟩ | ⟨g, cap, h0, _⟩
            · exact absurd h0 he
            · cases h0; exact ⟨g, rfl⟩
          obtain ⟨hcap1, hcap2, hgl, hat⟩ : held.length ≤ c6 ∧ c6 ≤ maxLen ∧ g < wr.heap.size ∧ BksAt wr g 0 held := by
            rcases hH.out.blks.shape with ⟨_, h0⟩ | ⟨g', cap, h0, r⟩
            · exact absurd h0 he
            · cases h0; exact r
          unfold maxLen at hcap2
          have HAt := hid hat
          clear he hat
          obtain ⟨K, hK⟩ : ∃ K, pk nn held.length = K := ⟨_, rfl⟩
          have hK0 : 0 ≤ K := by rw [← hK]; exact pk_nonneg _ _ (by omega)
          have hK1 : K < held.length := by rw [← hK]; exact pk_lt _ _ (by omega)
          have hPk : ∀ w, Calls Tryd.prog 13 #[.int .i64 nn, .int .i64 held.length] w fun e w' => e = .returned (.int .i64 K) ∧ w = w' := fun w => by rw [← hK]; exact pick_any nn held.length w (by omega) (by omega)
          clear hK
          obtain ⟨k, rfl⟩ := Int.eq_ofNat_of_zero_le hK0
          have HPk := hid hPk
          clear hPk
          have hkl : k < held.length := by omega
          obtain ⟨x, hx⟩ : ∃ x, held[k]? = some x := ⟨_, List.getElem?_eq_getElem hkl⟩
          obtain ⟨bb, oo⟩ := x
          obtain ⟨e0, e1⟩ := HAt.out k _ hx
          simp only [Nat.zero_add] at e0 e1
          obtain ⟨hmg, hpe⟩ := perm_erase hH.out.perm hH.out.pool.pool.mp.nodup hx
          have HX := hid hx
          have HMG := hid hmg
          have HPE := hid hpe
          clear hx hmg hpe
          go_wp2_with fail
          refine (HPk.out wr).mono ?_
          rintro e w1 ⟨rfl, rfl⟩
          go_wp2_with fail
          have HGive := hid (give_ok (hH.out.pool.pool.turned ((Turn.refl (fun _ => False) wr).drew) (fun _ _ => id)) bb oo HMG.out hH.out.good hn)
          go_region_with (go_at_call 27; refine HGive.out.mono ?_; rintro e w2 ⟨rfl, fr2, hg2, ha2⟩; have HG2 := hid hg2; have HA2 := hid ha2; clear hg2 ha2)
          all_goals
            obtain ⟨vs2, hp2, hb2, ho2⟩ := hH.out.got (PoolAfter.trans ((Turn.refl _ _).drew) (fun _ h => .inl h) HA2.out)
            have HP2 := hid hp2
            have HB2 := hid hb2
            have HO2 := hid ho2
            have hat2 : g < w2.heap.size ∧ BksAt w2 g 0 held := by
              rcases hb2.shape with ⟨h0, _⟩ | ⟨g', cap, h0, _, _, r1, r2⟩
              · cases h0
              · cases h0; exact ⟨r1, r2⟩
            have hgl2 := hat2.1
            have hTa : Turn (fun _ => False) w2 (w2.alloc (.cells #[] 36)).drew := ((Turn.refl _ _).alloc _).drew
            have HTa := hid hTa
            have HO1 : Hid (BlksAt (w2.alloc (.cells #[] 36)).drew (.slice (some ⟨w2.heap.size, 0, none⟩) 0 0) []) := hid (World.ownsRow_lit w2 #[] 0 (Nat.zero_le _) (Nat.zero_le _) rfl).drew
            have HC1 : Hid (BksAt (w2.alloc (.cells #[] 36)).drew g 0 (held.take k)) := hid ((hat2.2.turned hTa hgl2 id).take k)
            have HC2 : Hid (∀ w3, Turn (fun j => (Value.slice (some ⟨w2.heap.size, 0, none⟩) 0 0).ownBlock = some j) (w2.alloc (.cells #[] 36)).drew w3 → BksAt w3 g 0 held) := hid (fun w3 t3 => (hat2.2.turned hTa hgl2 id).turned t3 (Nat.lt_of_lt_of_le hgl2 hTa.size) (fun e => by simp only [Value.ownBlock, Option.some.injEq] at e; omega))
            have HTk : Hid ((held.take k).length = k) := hid (by rw [List.length_take]; omega)
            have HDr : Hid ((held.drop (k + 1)).length = held.length - (k + 1)) := hid (by rw [List.length_drop])
            have HM1 : Hid (0 < (held.take k).length ∨ (Value.slice (some ⟨w2.heap.size, 0, none⟩) 0 0) ≠ .slice none 0 0) := hid (.inr (by simp))
            have HM3 : Hid (∀ g3 z3, 0 < (held.drop (k + 1)).length ∨ (Value.slice (some ⟨g3, 0, none⟩) k z3) ≠ .slice none 0 0) := hid (fun _ _ => .inr (by simp))
            have HLL : Hid (([] : List Bk).length + (held.take k).length ≤ 1000000) := hid (by rw [HTk.out]; simp; omega)
            have HLL3 : Hid (([] ++ held.take k).length + (held.drop (k + 1)).length ≤ 1000000) := hid (by rw [HDr.out, List.nil_append, HTk.out]; omega)
            have HN1 : Hid (([] : List Bk).length + (held.take k).length = k) := hid (by rw [HTk.out]; simp)
            have HN2 : Hid (([] ++ held.take k).length + (held.drop (k + 1)).length = held.length - 1) := hid (by rw [HDr.out, List.nil_append, HTk.out]; omega)
            clear hp2 hb2 ho2 hat2 hTa
            have htl : (k : Int) ≤ held.length := by omega
            have hw1 : IntKind.i64.wrap ((k : Int) + 1) = (k : Int) + 1 := IntWalk.i64_in _ (by omega)
            have hw2 : ((k : Int) + 1).toNat = k + 1 := by omega
            have hw3 : (0 : Int) ≤ (k : Int) + 1 := by omega
            have hw4 : (k : Int) ≤ (k : Int) + 1 := by omega
            have htc : (k : Int) ≤ c6 := by omega
            have htl1 : (k : Int) + 1 ≤ held.length := by omega
            have htc1 : (k : Int) + 1 ≤ c6 := by omega
            go_wp2_with fail
            go_frame
            by_cases hct : c6 = k + 1
            · have hkl1 : held.length = k + 1 := by omega
              have HC3 : Hid (∀ w3, Turn (fun j => (Value.slice (some ⟨w2.heap.size, 0, none⟩) 0 0).ownBlock = some j) (w2.alloc (.cells #[] 36)).drew w3 → BksAt w3 g 0 (held.drop (k + 1))) := hid (fun w3 _ i t ht => by rw [List.drop_eq_nil_of_le (by omega)] at ht; simp at ht)
              clear hkl1
              go_region_law (first | (refine step_append_bks rfl _ _ rfl (.slice (some ⟨w2.heap.size, 0, none⟩) 0 0) [] rfl HO1.out g 0 _ (held.take k) k HTk.out rfl HC1.out HM1.out HLL.out k HN1.out ?_; intro g3 z3 w3 hi3 t3 ho3; have HI3 := hid hi3; have HT3 := hid t3; have HO3 := hid ho3; clear hi3 t3 ho3) | (refine step_append_bks rfl _ _ rfl (.slice (some ⟨g3, 0, none⟩) k z3) _ rfl HI3.out g 0 _ (held.drop (k + 1)) (held.length - (k + 1)) HDr.out rfl (HC3.out w3 HT3.out) (HM3.out g3 z3) HLL3.out (held.length - 1) HN2.out ?_; intro g4 z4 w4 hi4 t4 ho4; have HI4 := hid hi4; have HT4 := hid t4; have HO4 := hid ho4; clear hi4 t4 ho4))
              all_goals
                go_wp2_with fail
                go_roundw
                case rel =>
                  obtain ⟨u1, u2⟩ := two_appends HTa.out HT3.out HO3.out HT4.out HO4.out
                  have hpool := HP2.out.fresh u1
                  refine ⟨j + 1, held.take k ++ held.drop (k + 1), vs2, fr2, mdel tk bb, by omega, by go_num, by rw [List.length_append, HTk.out, HDr.out]; omega, hid ⟨hpool, HG2.out, ?_, fun g hg => ?_, HPE.out⟩⟩
                  · have := HI4.out
                    rw [List.nil_append] at this
                    exact this
                  · cases hg
                    exact ⟨Nat.le_trans HP2.out.turn.size u2, fun hf => by have := HP2.out.pool.foot_lt g4 hf; omega⟩
                case measure => simp [intOf]; omega
            · have HC3 : Hid (∀ w3, Turn (fun j => (Value.slice (some ⟨w2.heap.size, 0, none⟩) 0 0).ownBlock = some j) (w2.alloc (.cells #[] 36)).drew w3 → BksAt w3 g ((k + 1) * 2) (held.drop (k + 1))) := hid (fun w3 t3 => by have := (HC2.out w3 t3).drop (k + 1); rwa [Nat.zero_add] at this)
              go_region_law (first | (refine step_append_bks rfl _ _ rfl (.slice (some ⟨w2.heap.size, 0, none⟩) 0 0) [] rfl HO1.out g 0 _ (held.take k) k HTk.out rfl HC1.out HM1.out HLL.out k HN1.out ?_; intro g3 z3 w3 hi3 t3 ho3; have HI3 := hid hi3; have HT3 := hid t3; have HO3 := hid ho3; clear hi3 t3 ho3) | (refine step_append_bks rfl _ _ rfl (.slice (some ⟨g3, 0, none⟩) k z3) _ rfl HI3.out g ((k + 1) * 2) _ (held.drop (k + 1)) (held.length - (k + 1)) HDr.out rfl (HC3.out w3 HT3.out) (HM3.out g3 z3) HLL3.out (held.length - 1) HN2.out ?_; intro g4 z4 w4 hi4 t4 ho4; have HI4 := hid hi4; have HT4 := hid t4; have HO4 := hid ho4; clear hi4 t4 ho4))
              all_goals
                go_wp2_with fail
                go_roundw
                case rel =>
                  obtain ⟨u1, u2⟩ := two_appends HTa.out HT3.out HO3.out HT4.out HO4.out
                  have hpool := HP2.out.fresh u1
                  refine ⟨j + 1, held.take k ++ held.drop (k + 1), vs2, fr2, mdel tk bb, by omega, by go_num, by rw [List.length_append, HTk.out, HDr.out]; omega, hid ⟨hpool, HG2.out, ?_, fun g hg => ?_, HPE.out⟩⟩
                  · have := HI4.out
                    rw [List.nil_append] at this
                    exact this
                  · cases hg
                    exact ⟨Nat.le_trans HP2.out.turn.size u2, fun hf => by have := HP2.out.pool.foot_lt g4 hf; omega⟩
                case measure => simp [intOf]; omega
    · have hj' : j = xs.length := by omega
      subst hj'
      go_wp2_with fail
      go_ret2
      exact ⟨_, held, vs', fr, tk, rfl, hH.out⟩
end Go.Proofs.YtiohpmcedfbcgabDoor
