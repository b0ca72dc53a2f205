/- BuddyTrue walked: true, and nothing that was there turns. Conditions: the variable errors.errorType holds what is laid; the argument lies in memory. -/
import Derived.Test.YtiohpmcedfbcgabDoorTaken
import Derived.Test.YtiohpmcedfbcgabDoorTruePlain
import Derived.Test.YtiohpmcedfbcgabDoorBlocksEq
import Derived.Test.YtiohpmcedfbcgabDoorBlocksIn
import Derived.Test.YtiohpmcedfbcgabDoorTell
import Derived.Deep.RegionWith
import Derived.Deep.LoopGhost
import Derived.Deep.DeepCutAuto
import Derived.Deep.CutBlock
import Derived.Outline
namespace Go.Proofs.YtiohpmcedfbcgabDoor
open Go.RowKit
set_option linter.unusedVariables false

set_option maxRecDepth 100000 in
theorem true_many (nn : Int) (a : Option Addr) (n cap : Nat) (oo : Int) (w : World) (h : 60 < n) (hm : n ≤ 9223372036854775807) :
    Calls Tryd.prog 3 #[.int .i64 nn, .slice a n cap, .int .i64 oo] w fun e w' => e = .returned (.bool true) ∧ Turn (fun _ => False) w w' := by
  have h' : (60 : Int) < n := by omega
  clear h
  go_enter Tryd.func3, Tryd.ntmps3
  go_wp2_with fail
  all_goals go_ret
  all_goals exact ⟨rfl, Turn.refl _ _⟩

set_option maxHeartbeats 40000000 in
set_option maxRecDepth 100000 in
theorem true_few (nn : Int) (a : Option Addr) (xs : List (Bool × Int)) (cap : Nat) (oo : Int) (W : World) (hL : Laid W) (hl : xs.length ≤ 60)
    (hc : xs ≠ [] → ∃ b off, a = some ⟨b, off, none⟩ ∧ MovesAt W b off xs ∧ b < W.heap.size) :
    Calls Tryd.prog 3 #[.int .i64 nn, .slice a xs.length cap, .int .i64 oo] W fun e w' => e = .returned (.bool true) ∧ Turn (fun _ => False) W w' := by
  have HC := hid hc
  have HL := hid hL
  have hl' : (xs.length : Int) ≤ 60 := by omega
  have hmm := @run_makeMap Tryd.prog
  clear hc hL
  go_enter Tryd.func3, Tryd.ntmps3
  go_wp2_with fail
  refine (pooled_any W).mono ?_
  rintro e w1 ⟨rfl, t1⟩
  have HT1 := hid t1
  clear t1
  go_wp2_with fail
  refine (pick_some nn 200 w1 (by decide) (by decide)).mono ?_
  rintro e w2 ⟨K, hK0, hK1, rfl, rfl⟩
  go_wp2_with fail
  refine (new_any (1 + K) _ (by omega) (by omega)).mono ?_
  rintro e w2 ⟨p, mb, vs, fr, rfl, hp, hg, ht, hn⟩
  obtain ⟨n, hnn⟩ : ∃ n : Int, 1 + K = n := ⟨_, rfl⟩
  rw [hnn] at hp hg
  rw [hnn]
  have hn1 : 1 ≤ n := by omega
  have hn2 : n ≤ 200 := by omega
  have HP : Hid (PoolOf W w2 p mb vs ⟨n, fr, []⟩) := hid ⟨hp, HT1.out.trans ht, fun k hk => Nat.le_trans HT1.out.size (hn k hk)⟩
  have HG := hid hg
  clear hp hg ht hn hnn hK0 hK1
  go_wp2_with fail
  refine (taken_any HP.out HG.out rfl (show n ≤ 256 by omega) a xs cap hl HC.out).mono ?_
  rintro e w3 ⟨v, held, vs3, fr3, tk3, rfl, hH⟩
  have HP3 := hid hH.pool
  have HG3 : Hid (Good n fr3 tk3) := hid hH.good
  clear hH HP HG
  have HM0 : Hid (MapIs (w3.alloc (.map #[] 0)) w3.heap.size (.int .i64) encI (fun n : Int => Value.int .i64 n) ([] : List (Int × Int))) := hid (MapIs.made w3)
  have HP4 : Hid (PoolOf W (w3.alloc (.map #[] 0)) p mb vs3 ⟨n, fr3, tk3⟩) := hid (HP3.out.turned ((Turn.refl _ _).alloc _))
  have hmoF : ¬ Foot p mb vs3 w3.heap.size := fun hf => by have := HP3.out.pool.foot_lt _ hf; omega
  have hWm : W.heap.size ≤ w3.heap.size := HP3.out.turn.size
  go_wp2_with fail
  generalize w3.alloc (.map #[] 0) = w4 at *
  obtain ⟨mo, hmo⟩ : ∃ mo, w3.heap.size = mo := ⟨_, rfl⟩
  rw [hmo] at HM0 hmoF hWm
  rw [hmo]
  have HmoF := hid hmoF
  clear hmo hmoF HP3
  refine (free_any HP4.out.pool HG3.out (show n ≤ 256 by omega)).mono ?_
  rintro e w5 ⟨fl, af, cf, hf, rfl, hat, t5⟩
  have HP5 := hid (HP4.out.turned t5)
  have HgF : Hid (∀ g, af = some ⟨g, 0, none⟩ → fl ≠ [] → ¬ Foot p mb vs3 g) := hid (fun g e hne hf => by
    have := HP4.out.pool.foot_lt g hf
    rcases hat with h0 | ⟨g', h0, r0, _⟩
    · exact hne h0
    · rw [e] at h0; cases h0; omega)
  have HM5 := hid (HM0.out.turned t5 id)
  have HmoL : Hid (mo < w4.heap.size) := hid HM0.out.lt
  have HF := hid hf
  have HFat := hid hat
  have hfl : fl.length ≤ 1792 := by
    rw [HF.out.1.length_eq]
    exact listTo_len (fun k hk => HG3.out.len (show n ≤ 256 by omega) k hk) (Nat.le_refl _)
  have HOk : Hid (∀ t ∈ fl, Ok n t.2 t.1) := hid (fun t ht => by
    obtain ⟨h2, h3⟩ := mem_listTo.1 (hf.1.mem_iff.1 ht)
    exact HG3.out.okF t.2 t.1 h2 h3)
  clear hf hat t5 HP4 HM0
  go_wp2_with fail
  refine (pick_some oo 7 _ (by decide) (by decide)).mono ?_
  rintro e w6 ⟨O, hO0, hO1, rfl, rfl⟩
  obtain ⟨o, rfl⟩ := Int.eq_ofNat_of_zero_le hO0
  have ho7 : o < 7 := by omega
  go_wp2_with fail
  go_loopg [13, 14] (fl.length) (fun g lv iv wr => ∃ (i : Nat) (m : List (Int × Int)), i + g = fl.length ∧ iv = .int .i64 i ∧ lv = .int .i64 (leastR o (fl.take i) : Nat) ∧ Hid (MapIs wr mo (.int .i64) encI (fun n : Int => Value.int .i64 n) m) ∧ Hid (Marks m (FrIn (fl.take i))) ∧ Hid (Turn (fun k => k = mo) w5 wr))
  case atStart => exact ⟨0, [], by omega, rfl, rfl, HM5, hid (Marks.nil _ (fun f ⟨t, ht, _⟩ => by simp at ht)), hid (Turn.refl _ _)⟩
  case round =>
    clear HM5
    obtain ⟨i, m, hi, rfl, rfl, hM, hMk, hT⟩ := hrel
    by_cases hlt : i < fl.length
    · have hlt' : (i : Int) < fl.length := by omega
      obtain ⟨⟨tb, td⟩, ht⟩ : ∃ t, fl[i]? = some t := ⟨_, List.getElem?_eq_getElem hlt⟩
      obtain ⟨htd7, hb0, hba, hbn⟩ := HOk.out _ (List.mem_of_getElem? ht)
      simp only at htd7 hb0 hba hbn
      obtain ⟨g, rfl, hgm, hgl, hgat⟩ : ∃ g, af = some ⟨g, 0, none⟩ ∧ ¬ g = mo ∧ g < w5.heap.size ∧ BksAt w5 g 0 fl := by
        rcases HFat.out with h0 | ⟨g, h0, r0, r1, r2⟩
        · rw [h0] at ht; simp at ht
        · exact ⟨g, h0, by have := HmoL.out; omega, r1, r2⟩
      obtain ⟨c0, c1⟩ := (hgat.turned hT.out hgl hgm) i _ ht
      simp only [Nat.zero_add] at c0 c1
      have HX := hid ht
      have HGat := hid hgat
      have hsp := sz_pos td
      have hsl := sz_le (k := td) (by omega)
      have hx := wrap_sz ⟨td, htd7⟩
      simp only at hx
      have hsum : IntKind.i64.wrap (tb + sz td) = tb + sz td := IntWalk.i64_in _ (by omega)
      have hL7 := leastR_le o (fl.take i)
      have htd7' : (td : Int) < 7 := by omega
      obtain ⟨go, hgo⟩ : ∃ x, gk = x := ⟨_, rfl⟩
      have HGo := hid hgo
      clear ht hgat hgo
      go_wp2_with fail
      go_loopg [15] ((sz td).toNat) (fun g fv wr2 => ∃ (c : Nat) (m2 : List (Int × Int)), c + g = (sz td).toNat ∧ fv = .int .i64 (tb + (c : Int)) ∧ Hid (MapIs wr2 mo (.int .i64) encI (fun n : Int => Value.int .i64 n) m2) ∧ Hid (Marks m2 (fun f => FrIn (fl.take i) f ∨ (tb ≤ f ∧ f < tb + (c : Int)))) ∧ Hid (Turn (fun k => k = mo) w5 wr2))
      case atStart => exact ⟨0, m, by omega, by simp, hM, hid (hMk.out.congr (fun f => ⟨.inl, fun h => h.resolve_right (by omega)⟩)), hT⟩
      case round =>
        clear hM hMk hT c0 c1
        obtain ⟨c, m2, hc, rfl, hM2, hMk2, hT2⟩ := hrel
        obtain ⟨c0, c1⟩ := (HGat.out.turned hT2.out hgl hgm) i _ HX.out
        simp only [Nat.zero_add] at c0 c1
        by_cases hlt2 : (c : Int) < sz td
        · have hff : tb + (c : Int) < tb + sz td := by omega
          go_wp2_with fail
          go_quiet (fail)
          have HM3 : Hid (MapIs (wr.drewN nq) mo (.int .i64) encI (fun n : Int => Value.int .i64 n) m2) := hid (hM2.out.turned ((Turn.refl (fun _ => False) _).drewN nq) id)
          go_wp2_with (at_mapUpdate; refine wpList_mapput rfl _ _ _ 33 3 3 rfl Tryd.underlying33 Tryd.underlying3 keyI mo rfl HM3.out (tb + (c : Int)) rfl 1 rfl ?_; intro w7 hm7 t7; have HM7 := hid hm7; have HT7 := hid t7; clear hm7 t7)
          go_roundg (gk - 1)
          case measure => omega
          case rel =>
            refine ⟨c + 1, _, by omega, by rw [Int.natCast_add]; go_num, HM7, hid ((hMk2.out.put _).congr (fun f => ?_)), hid ((hT2.out.drewN nq).trans HT7.out)⟩
            constructor
            · rintro ((h1 | h1) | h1)
              · exact .inl h1
              · exact .inr ⟨by omega, by omega⟩
              · exact .inr ⟨by omega, by omega⟩
            · rintro (h1 | h1)
              · exact .inl (.inl h1)
              · by_cases e : f = tb + (c : Int)
                · exact .inr e
                · exact .inl (.inr ⟨by omega, by omega⟩)
        · have hff : ¬ (tb + (c : Int) < tb + sz td) := by omega
          have hce : (c : Int) = sz td := by omega
          have HCe := hid hce
          clear hce
          have hfin : Hid (Marks m2 (FrIn (fl.take (i + 1)))) := hid (hMk2.out.congr (fun f => by rw [frIn_snoc HX.out, HCe.out]))
          have hstep := leastR_snoc (o := o) HX.out
          have HStep := hid hstep
          clear hstep
          by_cases hot : o ≤ td
          · have hot' : (o : Int) ≤ td := by omega
            go_wp2_with fail
            go_quiet (fail)
            go_wp2_with fail
            all_goals
              have hgo := HGo.out
              go_roundg (go - 1)
              case measure => omega
              case rel => exact ⟨i + 1, m2, by omega, by go_num, by rw [HStep.out, if_pos hot]; congr 1; omega, hid (hM2.out.turned ((Turn.refl (fun _ => False) _).drewN _) id), hfin, hid (hT2.out.drewN _)⟩
          · have hot' : ¬ (o : Int) ≤ td := by omega
            go_wp2_with fail
            go_quiet (fail)
            go_wp2_with fail
            all_goals
              have hgo := HGo.out
              go_roundg (go - 1)
              case measure => omega
              case rel => exact ⟨i + 1, m2, by omega, by go_num, by rw [HStep.out, if_neg hot], hid (hM2.out.turned ((Turn.refl (fun _ => False) _).drewN _) id), hfin, hid (hT2.out.drewN _)⟩
    · have hie : i = fl.length := by omega
      subst hie
      rw [List.take_length] at hMk
      rw [List.take_length]
      obtain ⟨L, hLd⟩ : ∃ L, leastR o fl = L := ⟨_, rfl⟩
      rw [hLd]
      have HLd := hid hLd
      have HP6 : Hid (PoolOf W wr p mb vs3 ⟨n, fr3, tk3⟩) := hid ⟨HP5.out.pool.turned hT.out (fun k hf e => HmoF.out (e ▸ hf)), HP5.out.turn.trans' hT.out (fun k hk e => by omega), HP5.out.new⟩
      have HFat6 : Hid (fl = [] ∨ ∃ g, af = some ⟨g, 0, none⟩ ∧ g < wr.heap.size ∧ BksAt wr g 0 fl) := hid (HFat.out.imp id fun ⟨g, h0, r0, r1, r2⟩ => ⟨g, h0, Nat.lt_of_lt_of_le r1 hT.out.size, r2.turned hT.out r1 (by have := HmoL.out; omega)⟩)
      have hso := sz_pos o
      have hsl := sz_le (k := o) (by omega)
      have hx := wrap_sz ⟨o, ho7⟩
      simp only at hx
      clear hLd hlt hT HP5 HFat
      go_wp2_with fail
      go_loopg [16, 17] (n.toNat) (fun g sv bv wr2 => ∃ (B : Int) (sb : Bool), (g : Int) = n - B ∧ 0 ≤ B ∧ bv = .int .i64 B ∧ sv = .bool sb ∧ Hid (B % sz o = 0) ∧ Hid (sb = true ↔ ∃ b, 0 ≤ b ∧ b < B ∧ b % sz o = 0 ∧ AllIn fl o b) ∧ wr2 = wr)
      case atStart => exact ⟨0, false, by omega, by omega, rfl, rfl, hid (by simp), hid ⟨fun h => absurd h (by decide), fun ⟨b, h1, h2, _⟩ => absurd h2 (by omega)⟩, rfl⟩
      case round =>
        obtain ⟨B, sb, hgB, hB0, rfl, rfl, hBa, hSb, rfl⟩ := hrel
        have hBs : IntKind.i64.wrap (B + sz o) = B + sz o := IntWalk.i64_in _ (by omega)
        by_cases hBn : B + sz o ≤ n
        · obtain ⟨go, hgo⟩ : ∃ x, gk = x := ⟨_, rfl⟩
          have HGo := hid hgo
          clear hgo
          go_wp2_with fail
          go_loopg [18, 19] ((sz o).toNat) (fun g hv fv wr3 => ∃ (x cnt : Nat), x + g = (sz o).toNat ∧ fv = .int .i64 (B + (x : Int)) ∧ hv = .int .i64 cnt ∧ cnt ≤ x ∧ Hid (cnt = x ↔ ∀ f, B ≤ f → f < B + (x : Int) → FrIn fl f) ∧ wr3 = wr)
          case atStart => exact ⟨0, 0, by omega, by simp, rfl, Nat.le_refl _, hid ⟨fun _ f h1 h2 => absurd h2 (by omega), fun _ => rfl⟩, rfl⟩
          case round =>
            obtain ⟨x, cnt, hxg, rfl, rfl, hcx, hCn, rfl⟩ := hrel
            by_cases hxl : (x : Int) < sz o
            · have hff : B + (x : Int) < B + sz o := by omega
              by_cases hfr : FrIn fl (B + (x : Int))
              · have lk := lookup_mark hM.out (B + (x : Int))
                rw [hMk.out.1 _ hfr] at lk
                simp only [Option.getD_some] at lk
                have HFr := hid hfr
                clear hfr
                go_wp2_with fail
                go_roundg (gk - 1)
                case measure => omega
                case rel =>
                  refine ⟨x + 1, cnt + 1, by omega, by rw [Int.natCast_add]; go_num, by rw [Int.natCast_add]; go_num, by omega, hid ⟨fun h f h1 h2 => ?_, fun h => ?_⟩, rfl⟩
                  · by_cases e : f = B + (x : Int)
                    · rw [e]; exact HFr.out
                    · exact hCn.out.1 (by omega) f h1 (by omega)
                  · have := hCn.out.2 (fun f h1 h2 => h f h1 (by omega)); omega
              · have lk := lookup_mark hM.out (B + (x : Int))
                rw [hMk.out.2 _ hfr] at lk
                simp only [Option.getD_none] at lk
                have HFr := hid hfr
                clear hfr
                go_wp2_with fail
                go_roundg (gk - 1)
                case measure => omega
                case rel =>
                  refine ⟨x + 1, cnt, by omega, by rw [Int.natCast_add]; go_num, by go_num, by omega, hid ⟨fun h => by omega, fun h => absurd (h (B + (x : Int)) (by omega) (by omega)) HFr.out⟩, rfl⟩
            · have hff : ¬ (B + (x : Int) < B + sz o) := by omega
              have hxe : (x : Int) = sz o := by omega
              have HXe := hid hxe
              have hsum2 : IntKind.i64.wrap (B + sz o) = B + sz o := hBs
              have HAll : Hid (cnt = x ↔ AllIn fl o B) := hid (by
                have := hCn.out
                rw [hxe] at this
                exact this)
              have HStep : Hid ((sb = true ∨ cnt = x) ↔ ∃ b, 0 ≤ b ∧ b < B + sz o ∧ b % sz o = 0 ∧ AllIn fl o b) := hid (by
                constructor
                · rintro (h | h)
                  · obtain ⟨b, h1, h2, h3, h4⟩ := hSb.out.1 h
                    exact ⟨b, h1, by omega, h3, h4⟩
                  · exact ⟨B, hB0, by omega, hBa.out, HAll.out.1 h⟩
                · rintro ⟨b, h1, h2, h3, h4⟩
                  by_cases e : b < B
                  · exact .inl (hSb.out.2 ⟨b, h1, e, h3, h4⟩)
                  · right
                    have h5 : b = B := by
                      have e1 := Int.dvd_of_emod_eq_zero h3
                      have e2 := Int.dvd_of_emod_eq_zero hBa.out
                      obtain ⟨u, hu⟩ := e1
                      obtain ⟨z, hz⟩ := e2
                      have h6 : sz o * z ≤ sz o * u := by omega
                      have h7 : sz o * u < sz o * (z + 1) := by rw [Int.mul_add, Int.mul_one]; omega
                      have h8 : z ≤ u := Int.le_of_mul_le_mul_left h6 hso
                      have h9 : u < z + 1 := Int.lt_of_mul_lt_mul_left h7 (by omega)
                      have : u = z := by omega
                      rw [hu, hz, this]
                    rw [h5] at h4
                    exact HAll.out.2 h4)
              have HAdd : Hid ((B + sz o) % sz o = 0) := hid (by rw [Int.add_emod_right]; exact hBa.out)
              clear hxe
              cases sb with
              | true =>
                go_wp2_with fail
                have hgo := HGo.out
                go_roundg (n - (B + sz o)).toNat
                case measure => omega
                case rel => exact ⟨B + sz o, true, by omega, by omega, rfl, rfl, HAdd, hid ⟨fun _ => HStep.out.1 (by simp), fun _ => rfl⟩, rfl⟩
              | false =>
                by_cases hcz : cnt = x
                · have hcz' : ((cnt : Int) == sz o) = true := by have := HXe.out; rw [beq_iff_eq]; omega
                  have HCz := hid hcz
                  clear hcz
                  go_wp2_with fail
                  have hgo := HGo.out
                  go_roundg (n - (B + sz o)).toNat
                  case measure => omega
                  case rel => exact ⟨B + sz o, true, by omega, by omega, rfl, rfl, HAdd, hid ⟨fun _ => HStep.out.1 (.inr HCz.out), fun _ => rfl⟩, rfl⟩
                · have hcz' : ((cnt : Int) == sz o) = false := by have := HXe.out; rw [beq_eq_false_iff_ne]; omega
                  have HCz := hid hcz
                  clear hcz
                  go_wp2_with fail
                  have hgo := HGo.out
                  go_roundg (n - (B + sz o)).toNat
                  case measure => omega
                  case rel => exact ⟨B + sz o, false, by omega, by omega, rfl, rfl, HAdd, hid ⟨fun h => absurd h (by decide), fun h => absurd (HStep.out.2 h) (by simp [HCz.out])⟩, rfl⟩
        · have hBn' : ¬ (B + sz o ≤ n) := hBn
          have HSome : Hid (sb = true ↔ ∃ b, 0 ≤ b ∧ b + sz o ≤ n ∧ b % sz o = 0 ∧ AllIn fl o b) := hid (by
            rw [hSb.out]
            constructor
            · rintro ⟨b, h1, h2, h3, h4⟩
              refine ⟨b, h1, ?_, h3, h4⟩
              obtain ⟨u, hu⟩ := Int.dvd_of_emod_eq_zero h3
              obtain ⟨z, hz⟩ := Int.dvd_of_emod_eq_zero hBa.out
              have h7 : sz o * u < sz o * z := by omega
              have h9 : u < z := Int.lt_of_mul_lt_mul_left h7 (by omega)
              have h10 := Int.mul_le_mul_of_nonneg_left (show u + 1 ≤ z by omega) (show (0 : Int) ≤ sz o by omega)
              rw [Int.mul_add, Int.mul_one] at h10
              omega
            · rintro ⟨b, h1, h2, h3, h4⟩
              exact ⟨b, h1, by omega, h3, h4⟩)
          have HLf := hid (left_is HP6.out.pool (fun k hk => Nat.le_trans (HG3.out.len (show n ≤ 256 by omega) k hk) (by decide)))
          obtain ⟨LF, hLF⟩ : ∃ x, leftOf (⟨n, fr3, tk3⟩ : Pl).fr = x := ⟨_, rfl⟩
          rw [hLF] at HLf
          have HLF := hid hLF
          clear hLF
          go_wp2_with fail
          refine HLf.out.mono ?_
          rintro e w7 ⟨rfl, rfl⟩
          go_wp2_with fail
          refine (alloc_any HP6.out.pool o (by omega) HG3.out (show n ≤ 256 by omega)).mono ?_
          rintro e w8 (⟨rfl, rfl, hno⟩ | ⟨k, base, fr', hk1, hk7, hk3, hk4, _, rfl, hk6, hg', ha⟩)
          · have hsf : sb = false := by
              cases sb with
              | false => rfl
              | true =>
                obtain ⟨b, h1, h2, h3, h4⟩ := HSome.out.1 rfl
                exact absurd h4 (none_whole HG3.out HF.out (by omega) hno h1 h3 h2)
            subst hsf
            have hll : (LF == LF) = true := by simp
            clear hno
            go_wp2_with fail
            refine (tell_errno 12 _ (HL.out.turned0 HP6.out.turn)).mono ?_
            rintro e w9 ⟨rfl, t9⟩
            have HP9 := hid (HP6.out.turned t9)
            have HFat9 : Hid (BlkRow w9 af fl) := hid (HFat6.out.imp id fun ⟨g, h0, r1, r2⟩ => ⟨g, h0, Nat.lt_of_lt_of_le r1 t9.size, r2.turned t9 r1 id⟩)
            have hq := left_is HP9.out.pool (fun k hk => Nat.le_trans (HG3.out.len (show n ≤ 256 by omega) k hk) (by decide))
            rw [HLF.out] at hq
            have HQ := hid hq
            clear t9 hq
            go_wp2_with fail
            refine HQ.out.mono ?_
            rintro e w10 ⟨rfl, rfl⟩
            go_wp2_with fail
            refine (free_any HP9.out.pool HG3.out (show n ≤ 256 by omega)).mono ?_
            rintro e w10 ⟨fl2, af2, cf2, hf2, rfl, hat2, t10⟩
            have hfe : fl2 = fl := FreeOf.eq HG3.out HG3.out (fun _ => Iff.rfl) hf2 HF.out
            subst hfe
            have HEq := hid (equal_same (w := w10) fl2 af2 af cf2 cf (by omega) (hat2.imp id fun ⟨g, e1, e2, e3, e4⟩ => ⟨g, e1, e3, e4⟩) (HFat9.out.imp id fun ⟨g, h0, r1, r2⟩ => ⟨g, h0, Nat.lt_of_lt_of_le r1 t10.size, r2.turned t10 r1 id⟩))
            have HT10 := hid (HP9.out.turn.trans t10)
            clear t10 hat2 hf2
            go_wp2_with fail
            refine HEq.out.mono ?_
            rintro e w11 ⟨rfl, t11⟩
            have HT11 := hid (HT10.out.trans t11)
            clear t11
            go_wp2_with fail
            go_ret
            exact ⟨rfl, HT11.out⟩
          · obtain ⟨hall, hb0, hba, hbn, hmem⟩ := given_all HG3.out HF.out hk7 hk1 hk4
            have hst : sb = true := HSome.out.2 ⟨base, hb0, hbn, hba, hall⟩
            subst hst
            have hLk : L = k := by rw [← HLd.out]; exact given_least HF.out hk7 hk1 hk3 hmem
            subst hLk
            obtain ⟨vs8, hp8⟩ := HP6.out.after ha
            obtain ⟨_, _, t8, _⟩ := ha
            obtain ⟨g, rfl, hgw, hgl, hgat⟩ : ∃ g, af = some ⟨g, 0, none⟩ ∧ ¬ Foot p mb vs3 g ∧ g < w8.heap.size ∧ BksAt w8 g 0 fl := by
              rcases HFat6.out with h0 | ⟨g, h0, r1, r2⟩
              · rw [h0] at hmem; cases hmem
              · have hgF := HgF.out g h0 (by rintro rfl; cases hmem)
                exact ⟨g, h0, hgF, Nat.lt_of_lt_of_le r1 t8.size, r2.turned t8 r1 hgF⟩
            have HP8 := hid hp8
            have HM8 := hid (hM.out.turned t8 HmoF.out)
            have HG8 : Hid (Good n fr' (mput tk3 base o)) := hid hg'
            have HAl := hid hall
            have hT8 : Turn (fun _ => False) w8 w8.drew := (Turn.refl _ _).drew
            have hq := left_is (hp8.pool.turned hT8 (fun _ _ => id)) (fun k hk => Nat.le_trans (HG8.out.len (show n ≤ 256 by omega) k hk) (by decide))
            have hle : leftOf (⟨n, fr', mput tk3 base o⟩ : Pl).fr = LF - sz o := by
              rw [← HLF.out]
              show leftOf fr' = leftOf fr3 - sz o
              rw [HG8.out.left (show 0 ≤ n by omega), HG3.out.left (show 0 ≤ n by omega), sum_put hk6]
              show n - (sumSz tk3 + sz o) = (n - sumSz tk3) - sz o
              omega
            rw [hle] at hq
            have HQ := hid hq
            have hcon := contains_bk (cap := cf) (hgat.turned hT8 hgl id) (Nat.lt_of_lt_of_le hgl hT8.size) (base, L) (by omega)
            rw [decide_eq_true hmem] at hcon
            have HCon := hid hcon
            have hLF0 : 0 ≤ LF := by rw [← HLF.out, left_sum]; have := len_frames (listTo fr3 7); omega
            have hLF1 : LF ≤ 256 := by
              rw [← HLF.out]
              show leftOf fr3 ≤ _
              rw [HG3.out.left (show 0 ≤ n by omega)]
              have := len_frames tk3
              show n - sumSz tk3 ≤ 256
              omega
            have hbs : IntKind.i64.wrap (base + sz o) = base + sz o := IntWalk.i64_in _ (by omega)
            have hls : IntKind.i64.wrap (LF - sz o) = LF - sz o := IntWalk.i64_in _ (by omega)
            have hll : (LF - sz o == LF - sz o) = true := by simp
            clear hq hcon hle t8 hp8 hg' hall hk1 hk3 hk4 hk6 hmem hgat
            go_wp2_with fail
            go_loopg [22] ((sz o).toNat) (fun g fv wr3 => ∃ (x : Nat), x + g = (sz o).toNat ∧ fv = .int .i64 (base + (x : Int)) ∧ wr3 = w8)
            case atStart => exact ⟨0, by omega, by simp, rfl⟩
            case round =>
              obtain ⟨x, hxg, rfl, rfl⟩ := hrel
              by_cases hxl : (x : Int) < sz o
              · have hff : base + (x : Int) < base + sz o := by omega
                have lk := lookup_mark HM8.out (base + (x : Int))
                rw [hMk.out.1 _ (HAl.out _ (by omega) (by omega))] at lk
                simp only [Option.getD_some] at lk
                go_wp2_with fail
                go_roundg (gk - 1)
                case measure => omega
                case rel => exact ⟨x + 1, by omega, by rw [Int.natCast_add]; go_num, rfl⟩
              · have hff : ¬ (base + (x : Int) < base + sz o) := by omega
                go_wp2_with fail
                go_region_with (first | (go_at_call 17; refine HQ.out.mono ?_; rintro e w9 ⟨rfl, rfl⟩) | (go_at_call 21; refine HCon.out.mono ?_; rintro e w9 ⟨rfl, t9⟩; have HT9 := hid t9; clear t9))
                all_goals go_wp2_with fail
                all_goals go_ret
                all_goals exact ⟨rfl, (HP8.out.turn.drew).trans HT9.out⟩
end Go.Proofs.YtiohpmcedfbcgabDoor
