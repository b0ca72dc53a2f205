/- SlabCounts walked: true, and nothing that was there turns. Conditions: the variable errors.errorType holds what is laid; the argument lies in memory. -/
import Derived.Test.YtiohpmcedfbcgabDoorSlabbed
import Derived.Test.YtiohpmcedfbcgabDoorPick
import Derived.Test.YtiohpmcedfbcgabDoorMoves
import Derived.Test.YtiohpmcedfbcgabDoorIntsCut
import Derived.Deep.LoopGhost
import Derived.Deep.DeepCutAuto
import Derived.Deep.CutBlock
import Derived.Outline
namespace Go.Proofs.YtiohpmcedfbcgabDoor
open Go.RowKit
set_option linter.unusedVariables false

/-- The numbers that are there, in a slice of the call's own. -/
structure KList (W w : World) (v : Value) (ks : List Int) (p mb : Nat) (vs : Nat → Value) (cb sm : Nat) (l : List (Int × Nat)) : Prop where
  ints : IntsAt w v ks
  own : ∀ q, v.ownBlock = some q → W.heap.size ≤ q ∧ ¬ Feet p mb vs cb sm l q
section
variable {W w w' : World} {v : Value} {ks ks' : List Int} {p mb cb sm n per : Nat} {vs vs' : Nat → Value} {l l' : List (Int × Nat)} {fr : Fr} {tk : List Bk} {B : Nat → Nat → Bool}
theorem IntsAt.own_lt (h : IntsAt w v ks) {q : Nat} (hq : v.ownBlock = some q) : q < w.heap.size := by
  rcases h.shape with ⟨h1, _⟩ | ⟨g, cap, h1, _, _, hg⟩
  · rw [h1] at hq; cases hq
  · rw [h1] at hq; cases hq; exact hg
theorem KList.next (h : KList W w v ks p mb vs cb sm l) (t : Turn (Feet p mb vs cb sm l) w w') (c : ∀ k, Feet p mb vs' cb sm l' k → Feet p mb vs cb sm l k ∨ w.heap.size ≤ k) : KList W w' v ks p mb vs' cb sm l' :=
  ⟨h.ints.turned t (fun q hq e => (h.own q hq).2 e), fun q hq => ⟨(h.own q hq).1, fun hf => (c q hf).elim (h.own q hq).2 (fun hx => by have := h.ints.own_lt hq; omega)⟩⟩
theorem KList.still (h : KList W w v ks p mb vs cb sm l) (t : Turn (fun _ => False) w w') : KList W w' v ks p mb vs cb sm l := ⟨h.ints.turned t (fun _ _ => id), h.own⟩
theorem there_lt (h : SPool w p mb vs ⟨(n : Int), fr, tk⟩ cb sm per l B) {x : Int} (hx : ThereB l B per x) : 0 ≤ x ∧ x < 4096 := by
  obtain ⟨h0, b, hb, _⟩ := hx
  have h1 := h.frame _ (mem_of_mget hb)
  have h2 := h.hn
  simp only at h1 h2
  obtain ⟨e1, e2⟩ := frame_of per h.p1 x
  have h3 := made_lt h.p2 h1.1 (by omega) e2
  rw [← e1] at h3
  exact h3
theorem mem_erased {ks : List Int} (hn : ks.Nodup) {i : Nat} {x : Int} (hx : ks[i]? = some x) (y : Int) : y ∈ ks.eraseIdx i ↔ y ∈ ks ∧ y ≠ x := by
  rw [List.mem_eraseIdx_iff_getElem?]
  obtain ⟨hi, hxi⟩ := List.getElem?_eq_some_iff.1 hx
  constructor
  · rintro ⟨k, hk, hy⟩
    obtain ⟨hkl, hyk⟩ := List.getElem?_eq_some_iff.1 hy
    refine ⟨List.mem_of_getElem? hy, fun e => hk ?_⟩
    exact (List.getElem_inj hn).1 (by rw [hyk, hxi, e])
  · rintro ⟨h1, h2⟩
    obtain ⟨k, hk⟩ := List.getElem?_of_mem h1
    refine ⟨k, fun e => h2 ?_, hk⟩
    subst e
    rw [hx] at hk
    exact (Option.some.inj hk).symm
theorem KList.room (h : KList W w v ks p mb vs cb sm l) (hs : SKeep W w p mb vs n fr tk cb sm per l B) : ∀ k, Feet p mb vs cb sm l k → ¬ v.ownBlock = some k := fun k hk e => (h.own k e).2 hk
end

set_option maxRecDepth 100000 in
theorem counts_many (a0 a1 : Int) (a : Option Addr) (len cap : Nat) (W : World) (hm : 60 < len) (hl : len ≤ 9223372036854775807) :
    Calls Tryd.prog 8 #[.int .i64 a0, .int .i64 a1, .slice a len cap] W fun e w' => e = .returned (.bool true) ∧ Turn (fun _ => False) W w' := by
  have hm' : (60 : Int) < len := by omega
  go_enter Tryd.func8, Tryd.ntmps8
  go_wp2_with fail
  go_ret
  exact ⟨rfl, Turn.refl _ _⟩

set_option maxHeartbeats 40000000 in
set_option maxRecDepth 100000 in
theorem counts_few (a0 a1 : Int) (a : Option Addr) (xs : List (Bool × Int)) (cap : Nat) (W : World) (hL : Laid W) (hl : xs.length ≤ 60)
    (hc : xs ≠ [] → ∃ b off, a = some ⟨b, off, none⟩ ∧ MovesAt W b off xs ∧ b < W.heap.size) :
    Calls Tryd.prog 8 #[.int .i64 a0, .int .i64 a1, .slice a xs.length cap] W fun e w' => e = .returned (.bool true) ∧ Turn (fun _ => False) W w' := by
  have HC := hid hc
  have HL := hid hL
  have hm' : ¬ (60 : Int) < xs.length := by omega
  clear hc hL
  go_enter Tryd.func8, Tryd.ntmps8
  go_wp2_with fail
  refine (slabbed_is W).mono ?_
  rintro e w1 ⟨rfl, t1⟩
  have HT1 := hid t1
  clear t1
  go_wp2_with fail
  refine (pick_some a0 40 w1 (by decide) (by decide)).mono ?_
  rintro e w2 ⟨k1, k10, k11, rfl, rfl⟩
  go_wp2_with fail
  refine (pick_some a1 16 w1 (by decide) (by decide)).mono ?_
  rintro e w2 ⟨k2, k20, k21, rfl, rfl⟩
  obtain ⟨N, hN⟩ : ∃ N : Nat, 1 + k1 = N := ⟨(1 + k1).toNat, by omega⟩
  obtain ⟨per, hper⟩ : ∃ per : Nat, 1 + k2 = per := ⟨(1 + k2).toNat, by omega⟩
  have hN1 : 1 ≤ N := by omega
  have hN2 : N ≤ 40 := by omega
  have hp1 : 1 ≤ per := by omega
  have hp2 : per ≤ 16 := by omega
  go_wp2_with fail
  clear hN hper k10 k11 k20 k21
  refine (new_any N w1 (by omega) (by omega)).mono ?_
  rintro e w2 ⟨p, mb, vs, fr, rfl, hp, hg, t2, hf⟩
  have HP2 := hid hp
  have HG2 := hid hg
  have HT2 := hid (HT1.out.trans t2)
  have HF2 : Hid (∀ k, Foot p mb vs k → W.heap.size ≤ k) := hid (fun k hk => Nat.le_trans HT1.out.size (hf k hk))
  clear hp hg t2 hf HT1
  go_wp2_with fail
  refine (slabNew_is (w := w2) p per hp1 hp2).mono ?_
  rintro e w3 ⟨cb, sm, rfl, hsl, t3, hcb, hsm⟩
  have HK : Hid (SKeep W w3 p mb vs N fr [] cb sm per [] (fun _ _ => false)) := hid (by
    refine ⟨⟨HP2.out.turned t3 (fun _ _ => id), HG2.out, by show (N : Int) ≤ 256; omega, hsl, fun t ht => (by cases ht), fun k hk hk2 => ?_, hp1, hp2⟩, HT2.out.trans t3, fun k hk => ?_, fun f _ => by simp [mget]⟩
    · have h5 := HP2.out.foot_below k hk2
      rcases hk with h6 | h6 | h6
      · omega
      · omega
      · simp at h6
    · have h6 := HT2.out.size
      rcases hk with hk | hk | hk | hk
      · exact HF2.out k hk
      · omega
      · omega
      · simp at hk)
  clear hsl t3 hcb hsm HP2 HG2 HT2 HF2
  go_wp2_with fail
  go_loopg [10, 11] (xs.length) (fun gl v i wr => ∃ (j : Nat) (ks : List Int) (vs : Nat → Value) (fr : Fr) (tk : List Bk) (l : List (Int × Nat)) (B : Nat → Nat → Bool), j + gl = xs.length ∧ i = .int .i64 j ∧ Hid (SKeep W wr p mb vs N fr tk cb sm per l B) ∧ Hid (KList W wr v ks p mb vs cb sm l) ∧ Hid (ks.Nodup ∧ ks.length ≤ j ∧ ∀ x, x ∈ ks ↔ ThereB l B per x))
  case atStart => exact ⟨0, [], vs, fr, [], [], _, by omega, rfl, HK, hid ⟨⟨by simp, .inl ⟨rfl, rfl⟩⟩, fun q hq => by cases hq⟩, hid ⟨List.nodup_nil, Nat.le_refl _, fun x => ⟨fun h => (by cases h), fun h => by obtain ⟨_, b, hb, _⟩ := h; simp [mget] at hb⟩⟩⟩
  case round =>
    clear HK
    obtain ⟨j, ks, vs, fr, tk, l, B, hj, rfl, hK, hL, hS⟩ := hrel
    obtain ⟨a3, cap3, rfl⟩ := hL.out.ints.slice
    have hksj := hS.out.2.1
    by_cases hlt : j < xs.length
    · have hlt' : (j : Int) < xs.length := by omega
      obtain ⟨⟨x0, x1⟩, hx⟩ : ∃ x, xs[j]? = some x := ⟨_, List.getElem?_eq_getElem hlt⟩
      obtain ⟨b, off, rfl, hO, hb⟩ := HC.out (by rintro rfl; simp at hlt)
      obtain ⟨d0, d1⟩ := hO.turned hK.out.turn hb id j _ hx
      simp only at d0 d1
      clear hO hx
      go_upto_if 60 with fail
      go_cut [10] (fun v wx => ∃ (ks : List Int) (vs : Nat → Value) (fr : Fr) (tk : List Bk) (l : List (Int × Nat)) (B : Nat → Nat → Bool), Hid (SKeep W wx p mb vs N fr tk cb sm per l B) ∧ Hid (KList W wx v ks p mb vs cb sm l) ∧ Hid (ks.Nodup ∧ ks.length ≤ j + 1 ∧ ∀ x, x ∈ ks ↔ ThereB l B per x))
      case first =>
        cases x0 with
        | true =>
          as_aux_lemma =>
            go_wp2_with fail
            refine (slabAlloc_any hK.out.sp).mono ?_
            rintro e w6 hp
            rcases keep_alloc hK.out hp with ⟨rfl, hleft, t6⟩ | ⟨k, f, rfl, hno, hk0, hk1, hkf, hf1, hf0, vs', fr', tk', l', B', hK6, hth, t6, c6⟩
            · have HK6 := hid (hK.out.still t6)
              have HL6 := hid (hL.out.still t6)
              have HLd := hid (HL.out.turned0 HK6.out.turn)
              have HLeft := hid hleft
              rw [errB12]
              clear hp t6 hleft hK hL d0 d1
              go_wp2_with fail
              refine (tell_errno 12 w6 HLd.out).mono ?_
              rintro e w7 ⟨rfl, t7⟩
              have HK7 := hid (HK6.out.still t7)
              have HL7 := hid (HL6.out.still t7)
              clear t7
              go_wp2_with fail
              refine (left_is HK7.out.sp.pool (fun k hk => by have := HK7.out.sp.good.len (by show (N : Int) ≤ 256; omega) k hk; simp only at this ⊢; omega)).mono ?_
              rintro e w8 ⟨rfl, rfl⟩
              rw [show leftOf (Pl.fr ⟨(N : Int), fr, tk⟩) = 0 from HLeft.out]
              go_wp2_with fail
              go_meet
              exact ⟨ks, vs, fr, tk, l, B, HK7, HL7, hid ⟨hS.out.1, by omega, hS.out.2.2⟩⟩
            · have HK6 := hid hK6
              have hL6 := hL.out.next t6 c6
              have HL6 := hid hL6
              have hkin : k ∉ ks := fun h => hno ((hS.out.2.2 k).1 h)
              have hS6 : Hid ((ks ++ [k]).Nodup ∧ (ks ++ [k]).length ≤ j + 1 ∧ ∀ x, x ∈ ks ++ [k] ↔ ThereB l' B' per x) := hid (by
                refine ⟨?_, by simp; omega, fun x => ?_⟩
                · rw [List.nodup_append]
                  exact ⟨hS.out.1, by simp, fun x hx y hy e => hkin (by rw [List.mem_singleton.1 hy] at e; exact e ▸ hx)⟩
                · rw [hth, List.mem_append, hS.out.2.2, List.mem_singleton])
              have HNo := hid hkin
              have hk0' : ¬ k < 0 := by omega
              have hp0 : ¬ ((per : Int) = 0) := by omega
              have hp0' : ¬ (per = 0) := by omega
              have hwf : IntKind.i64.wrap f = f := IntWalk.i64_in _ (by omega)
              have hfN : ¬ (N : Int) ≤ f := by omega
              have HO1 : Hid (IntsAt (w6.alloc (.cells #[.int .i64 k] 3)) (.slice a3 ks.length cap3) ks) := hid (hL6.ints.turned ((Turn.refl (fun _ => False) _).alloc _) (fun _ _ => id))
              have HC1 : Hid ((w6.alloc (.cells #[.int .i64 k] 3)).cell? ⟨w6.heap.size, 0, none⟩ = some (.int .i64 k)) := hid (by simp)
              have hksl : ks.length ≤ 1000000 := by omega
              clear hp t6 c6 hK hL d0 d1 hK6 hL6 hno hkin hth
              go_wp2_with fail
              refine (contains_no HL6.out.ints k (by omega) HNo.out).mono ?_
              rintro e w7 ⟨rfl, rfl⟩
              go_wp2_with (at_builtin; refine wpList_append_int rfl _ _ rfl (.slice a3 ks.length cap3) ks rfl HO1.out w6.heap.size 1 k rfl HC1.out hksl ?_; intro g3 z3 w8 hi8 t8 ho8; have HI8 := hid hi8; have HT8 := hid t8; have HO8 := hid ho8; clear hi8 t8 ho8)
              go_meet
              have hown : ∀ q, (Value.slice (some ⟨g3, 0, none⟩) (ks.length + 1) z3).ownBlock = some q → W.heap.size ≤ q ∧ ¬ Feet p mb vs' cb sm l' q := fun q hq => by
                cases hq
                rcases HO8.out with h | h
                · exact HL6.out.own _ h
                · have h9 := HK6.out.turn.size
                  rw [World.size_alloc] at h
                  exact ⟨show W.heap.size ≤ g3 by omega, fun hf => by have : g3 < w6.heap.size := HK6.out.sp.feet_lt g3 hf; omega⟩
              have hI9 : KList W w8 (.slice (some ⟨g3, 0, none⟩) (ks.length + 1) z3) (ks ++ [k]) p mb vs' cb sm l' := ⟨HI8.out, hown⟩
              refine ⟨ks ++ [k], vs', fr', tk', l', B', hid ?_, hid hI9, hS6⟩
              exact (HK6.out.still ((Turn.refl (fun _ => False) _).alloc (.cells #[.int .i64 k] 3))).turned HT8.out (HL6.out.room HK6.out) (fun q hq e => by have := (HL6.out.own q e).1; omega)
        | false =>
          as_aux_lemma =>
            by_cases hke : ks = []
            · have hk0 : ¬ (0 : Int) < ks.length := by rw [hke]; simp
              have HE := hid hke
              clear hke
              go_wp2_with fail
              go_meet
              exact ⟨ks, vs, fr, tk, l, B, hK, hL, hid ⟨hS.out.1, by omega, hS.out.2.2⟩⟩
            · have hk0 : (0 : Int) < ks.length := by have := List.length_pos_iff.2 hke; omega
              obtain ⟨g3, rfl, hg3⟩ : ∃ g, a3 = some ⟨g, 0, none⟩ ∧ g < wr.heap.size := by
                rcases hL.out.ints.shape with ⟨_, h0⟩ | ⟨g, cap', h0, _, _, r1⟩
                · exact absurd h0 hke
                · cases h0; exact ⟨g, rfl, r1⟩
              clear hke
              go_wp2_with fail
              refine (pick_some x1 ks.length wr (by omega) (by omega)).mono ?_
              rintro e w5 ⟨kk, hkk0, hkk1, rfl, rfl⟩
              obtain ⟨kk, rfl⟩ : ∃ k : Nat, kk = k := ⟨kk.toNat, by omega⟩
              have hkl : kk < ks.length := by omega
              obtain ⟨x, hx⟩ : ∃ x, ks[kk]? = some x := ⟨_, List.getElem?_eq_getElem hkl⟩
              have hxt := (hS.out.2.2 x).1 (List.mem_of_getElem? hx)
              obtain ⟨hx0, hx4⟩ := there_lt hK.out.sp hxt
              have e1 := hL.out.ints.cell kk x hx
              have HX := hid hx
              have HXt := hid hxt
              clear hx hxt d0 d1
              go_wp2_with fail
              refine (slabGiveS hK.out.sp x (by omega)).mono ?_
              rintro e w6 hp
              obtain ⟨_, rfl, vs', fr', tk', l', B', hK6, hth, t6, c6⟩ := (keep_give hK.out hp).resolve_left (fun h => h.1 HXt.out)
              have HK6 := hid hK6
              have HL6 := hid (hL.out.next t6 c6)
              have hno : ¬ ThereB l' B' per x := fun h => ((hth x).1 h).2 rfl
              have HNo := hid hno
              have HTh := hid hth
              have e2 := HL6.out.ints.cell kk x HX.out
              clear hp hK6 t6 c6 hno hth e1 hK hL
              go_wp2_with fail
              refine (slabGiveS HK6.out.sp x (by omega)).mono ?_
              rintro e w7 hp
              obtain ⟨_, rfl, t7⟩ := (keep_give HK6.out hp).resolve_right (fun h => HNo.out h.1)
              have HK7 := hid (HK6.out.still t7)
              have HL7 := hid (HL6.out.still t7)
              rw [errB7]
              clear hp t7 e2 HK6 HL6
              go_wp2_with fail
              refine (clone_ints HL7.out.ints (by omega)).mono ?_
              rintro e w8 ⟨g8, c8, rfl, hi8, hg8, t8⟩
              have HI8 := hid hi8
              have HK8 := hid (HK7.out.still t8)
              have hg8W : W.heap.size ≤ g8 := Nat.le_trans HK7.out.turn.size hg8
              have hg8F : ∀ k, Feet p mb vs' cb sm l' k → k ≠ g8 := fun k hk e => by have := HK7.out.sp.feet_lt k hk; omega
              have HG8 := hid hg8F
              clear hi8 t8 hg8F HK7 HL7
              go_wp2_with fail
              refine (delete_ints HI8.out kk hkl).mono ?_
              rintro e w9 ⟨rfl, hi9, t9⟩
              have HI9 := hid hi9
              have HK9 := hid (HK8.out.turned t9 HG8.out (fun q hq e => by omega))
              clear hi9 t9
              go_wp2_with fail
              go_meet
              refine ⟨ks.eraseIdx kk, vs', fr', tk', l', B', HK9, hid ⟨HI9.out, fun q hq => ?_⟩, hid ⟨(List.eraseIdx_sublist ks kk).nodup hS.out.1, ?_, fun y => ?_⟩⟩
              · cases hq
                exact ⟨hg8W, fun hf => HG8.out g8 hf rfl⟩
              · have := List.length_eraseIdx_le ks kk
                omega
              · rw [HTh.out, mem_erased hS.out.1 HX.out, hS.out.2.2]
      case rest =>
        clear hK hL hS d0 d1 hksj
        obtain ⟨ks2, vs2, fr2, tk2, l2, B2, hK, hL, hS⟩ := hcut
        obtain ⟨a4, cap4, rfl⟩ := hL.out.ints.slice
        have hks2 := hS.out.2.1
        have hTh := hK.out.things hS.out.1 hS.out.2.2
        have hThl := thingsOf_le B2 per l2
        rw [hTh] at hThl
        have HTh := hid (slabThings_any hK.out.sp)
        rw [hTh] at HTh
        have hlf := hK.out.left
        have hll := hK.out.sp.len
        obtain ⟨LL, hLL⟩ : ∃ LL, l2.length = LL := ⟨_, rfl⟩
        obtain ⟨LV, hLV⟩ : ∃ LV, leftOf fr2 = LV := ⟨_, rfl⟩
        rw [hLL] at hThl hlf hll
        rw [hLV] at hlf
        have hLp : ∀ w, PoolAt w p mb vs2 ⟨(N : Int), fr2, tk2⟩ → Calls Tryd.prog 17 #[.pointer (some ⟨p, 0, none⟩)] w fun e w' => e = .returned (.int .i64 LV) ∧ w = w' := fun w h => by
          rw [← hLV]
          exact left_is h (fun k hk => by have := hK.out.sp.good.len (by show (N : Int) ≤ 256; omega) k hk; simp only at this ⊢; omega)
        have hFl : ∀ w, SlabIs w cb sm p per l2 B2 → Calls Tryd.prog 63 #[.pointer (some ⟨cb, 0, none⟩)] w fun e w' => e = .returned (.int .i64 LL) ∧ w = w' := fun w h => by
          rw [← hLL]
          exact frames_len h
        have HLp := hid hLp
        have HFl := hid hFl
        have hw1 : IntKind.i64.wrap ((LL : Int) + LV) = N := by
          have e : (LL : Int) + LV = N := by omega
          rw [e]; exact IntWalk.i64_in _ (by omega)
        have hm0 : LL * per ≤ 256 * 16 := Nat.mul_le_mul hll hp2
        obtain ⟨M, hM⟩ : ∃ M, LL * per = M := ⟨_, rfl⟩
        rw [hM] at hm0 hThl
        have hMI : (LL : Int) * per = M := by rw [← hM]; simp
        have hw2 : IntKind.i64.wrap ((LL : Int) * per) = M := by rw [hMI]; exact IntWalk.i64_in _ (by omega)
        have hML : ¬ (M : Int) < ks2.length := by omega
        clear hTh hLL hLV hLp hFl hM hMI hlf
        go_wp2_with fail
        refine HTh.out.mono ?_
        rintro e w6 ⟨rfl, t6⟩
        have HK6 := hid (hK.out.still t6)
        have HL6 := hid (hL.out.still t6)
        clear t6 hK hL HTh
        go_wp2_with fail
        refine (HFl.out _ HK6.out.sp.slab).mono ?_
        rintro e w7 ⟨rfl, rfl⟩
        go_wp2_with fail
        refine (HLp.out _ HK6.out.sp.pool).mono ?_
        rintro e w7 ⟨rfl, rfl⟩
        go_wp2_with fail
        refine (HFl.out _ HK6.out.sp.slab).mono ?_
        rintro e w7 ⟨rfl, rfl⟩
        go_wp2_with fail
        go_roundg (gk - 1)
        case measure => omega
        case rel => exact ⟨j + 1, ks2, vs2, fr2, tk2, l2, B2, by omega, by go_num, HK6, HL6, hid ⟨hS.out.1, hS.out.2.1, hS.out.2.2⟩⟩
    · have hlt' : ¬ (j : Int) < xs.length := by omega
      clear hksj
      go_wp2_with fail
      refine (slabReap_any hK.out.sp).mono ?_
      rintro e w6 hp
      obtain ⟨N1, vs1, fr1, tk1, l1, rfl, _, hK1, hf1, hth1, t6, c6⟩ := keep_reap hK.out hp
      have HK1 := hid hK1
      have HL1 := hid (hL.out.next t6 c6)
      have HF1 := hid hf1
      have hS1 : Hid (∀ x, x ∈ ks ↔ ThereB l1 B per x) := hid (fun x => (hS.out.2.2 x).trans (hth1 x).symm)
      have hle := full_le hf1
      rw [HK1.out.things hS.out.1 hS1.out] at hle
      obtain ⟨L1, hL1⟩ : ∃ L1, l1.length = L1 := ⟨_, rfl⟩
      have HFl1 : Hid (Calls Tryd.prog 63 #[.pointer (some ⟨cb, 0, none⟩)] w6 fun e w' => e = .returned (.int .i64 L1) ∧ w6 = w') := hid (by rw [← hL1]; exact frames_len HK1.out.sp.slab)
      rw [hL1] at hle
      obtain ⟨K1, hK1'⟩ : ∃ K1 : Int, (ks.length : Int) = K1 := ⟨_, rfl⟩
      have hle' : ((L1 : Int) > (ks.length : Int)) = False := by simp; omega
      have hle2 : decide (ks.length < L1) = false := decide_eq_false (by omega)
      have hle3 : ¬ (ks.length : Int) < L1 := by omega
      have hksl : ks.length ≤ 60 := by have := hS.out.2.1; omega
      clear hp hK1 hf1 hth1 t6 c6 hK hL hle hL1 hK1' K1
      go_wp2_with fail
      refine HFl1.out.mono ?_
      rintro e w7 ⟨rfl, rfl⟩
      go_wp2_with fail
      refine (slabReap_any HK1.out.sp).mono ?_
      rintro e w7 hp
      obtain ⟨N2, vs2, fr2, tk2, l2, rfl, hz, hK2, hf2, hth2, t7, c7⟩ := keep_reap HK1.out hp
      obtain rfl := hz HF1.out
      have HK2 := hid hK2
      have HL2 := hid (HL1.out.next t7 c7)
      have hS2 : Hid (∀ x, x ∈ ks ↔ ThereB l2 B per x) := hid (fun x => (hS1.out x).trans (hth2 x).symm)
      have HNd := hid hS.out.1
      clear hp hK2 hf2 hth2 t7 c7 hS hS1 HK1 HL1 HF1 HFl1
      go_wp2_with fail
      go_loopg [15] (ks.length) (fun gl i wr => ∃ (j : Nat) (vs : Nat → Value) (fr : Fr) (tk : List Bk) (l : List (Int × Nat)) (B : Nat → Nat → Bool), j + gl = ks.length ∧ i = .int .i64 j ∧ Hid (SKeep W wr p mb vs N fr tk cb sm per l B) ∧ Hid (KList W wr (.slice a3 ks.length cap3) ks p mb vs cb sm l) ∧ Hid (∀ x, x ∈ ks.drop j ↔ ThereB l B per x))
      case atStart => exact ⟨0, vs2, fr2, tk2, l2, B, by omega, rfl, HK2, HL2, hS2⟩
      case round =>
        clear HK2 HL2 hS2
        obtain ⟨i, vs, fr, tk, l, B, hi, rfl, hK, hL, hS⟩ := hrel
        by_cases hil : i < ks.length
        · have hil' : (i : Int) < ks.length := by omega
          obtain ⟨x, hx⟩ : ∃ x, ks[i]? = some x := ⟨_, List.getElem?_eq_getElem hil⟩
          obtain ⟨g3, rfl, hg3⟩ : ∃ g, a3 = some ⟨g, 0, none⟩ ∧ g < wr.heap.size := by
            rcases hL.out.ints.shape with ⟨_, h0⟩ | ⟨g, cap', h0, _, _, r1⟩
            · rw [h0] at hil; simp at hil
            · cases h0; exact ⟨g, rfl, r1⟩
          have hdrop : ks.drop i = x :: ks.drop (i + 1) := by rw [List.drop_eq_getElem_cons hil, (List.getElem?_eq_some_iff.1 hx).2]
          have hxt := (hS.out x).1 (by rw [hdrop]; exact List.mem_cons_self ..)
          obtain ⟨hx0, hx4⟩ := there_lt hK.out.sp hxt
          have e1 := hL.out.ints.cell i x hx
          have hnd2 : x ∉ ks.drop (i + 1) := by
            have h5 : (ks.drop i).Nodup := (List.drop_sublist i ks).nodup HNd.out
            rw [hdrop] at h5
            exact (List.nodup_cons.1 h5).1
          have HXt := hid hxt
          have HDr := hid hdrop
          have HN2 := hid hnd2
          clear hx hxt hdrop hnd2
          go_wp2_with fail
          refine (slabGiveS hK.out.sp x (by omega)).mono ?_
          rintro e w6 hp
          obtain ⟨_, rfl, vs', fr', tk', l', B', hK6, hth, t6, c6⟩ := (keep_give hK.out hp).resolve_left (fun h => h.1 HXt.out)
          have HK6 := hid hK6
          have HL6 := hid (hL.out.next t6 c6)
          have HTh := hid hth
          clear hp hK6 t6 c6 hth e1 hK hL
          go_wp2_with fail
          go_roundg (gk - 1)
          case measure => omega
          case rel =>
            refine ⟨i + 1, vs', fr', tk', l', B', by omega, by go_num, HK6, HL6, hid (fun y => ?_)⟩
            rw [HTh.out, ← hS.out, HDr.out, List.mem_cons]
            constructor
            · intro h
              exact ⟨.inr h, fun e => HN2.out (e ▸ h)⟩
            · rintro ⟨rfl | h, h2⟩
              · exact absurd rfl h2
              · exact h
        · have hil' : ¬ (i : Int) < ks.length := by omega
          have hno : ∀ x, ¬ ThereB l B per x := fun x h => by
            have := (hS.out x).2 h
            rw [List.drop_eq_nil_of_le (by omega)] at this
            cases this
          have HNo := hid hno
          clear hno hL
          go_wp2_with fail
          refine (slabReap_any hK.out.sp).mono ?_
          rintro e w6 hp
          obtain ⟨N1, vs1, fr1, tk1, l1, rfl, _, hK1, hf1, hth1, t6, c6⟩ := keep_reap hK.out hp
          have hno1 : ∀ x, ¬ ThereB l1 B per x := fun x h => HNo.out x ((hth1 x).1 h)
          obtain rfl := full_none hK1 hf1 hno1
          have HK1 := hid hK1
          have hlf := hK1.left
          have HLf : Hid (leftOf (Pl.fr ⟨(N : Int), fr1, tk1⟩) = N) := hid (by simp at hlf; exact hlf)
          have HTh := hid (slabThings_any HK1.out.sp)
          rw [show thingsOf [] B per = 0 from rfl] at HTh
          clear hp hK1 hf1 hth1 t6 c6 hK hno1 hlf
          go_wp2_with fail
          refine (frames_len HK1.out.sp.slab).mono ?_
          rintro e w7 ⟨rfl, rfl⟩
          go_wp2_with fail
          refine (left_is HK1.out.sp.pool (fun k hk => by have := HK1.out.sp.good.len (by show (N : Int) ≤ 256; omega) k hk; simp only at this ⊢; omega)).mono ?_
          rintro e w7 ⟨rfl, rfl⟩
          rw [HLf.out]
          go_wp2_with fail
          refine HTh.out.mono ?_
          rintro e w7 ⟨rfl, t7⟩
          have HT7 := hid (HK1.out.turn.trans t7)
          clear t7 HTh
          go_wp2_with fail
          go_ret
          exact ⟨rfl, HT7.out⟩
end Go.Proofs.YtiohpmcedfbcgabDoor
