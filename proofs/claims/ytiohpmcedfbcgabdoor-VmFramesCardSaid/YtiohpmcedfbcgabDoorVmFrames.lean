/- VmFrames walked: true, and nothing that was there turns. Conditions: the variable errors.errorType holds what is laid; the arguments lie in memory. -/
import Derived.Test.YtiohpmcedfbcgabDoorVmKeep
import Derived.Test.YtiohpmcedfbcgabDoorVmPaged
import Derived.Test.YtiohpmcedfbcgabDoorVmClear
import Derived.Test.YtiohpmcedfbcgabDoorPick
import Derived.Test.YtiohpmcedfbcgabDoorTell
import Derived.Test.YtiohpmcedfbcgabDoorNums
namespace Go.Proofs.YtiohpmcedfbcgabDoor
open Go.RowKit
set_option linter.unusedVariables false

/-- Uses in memory: five numbers each. -/
abbrev Us := Int × Int × Int × Int × Int
def UsesAt (W : World) (b off : Nat) (xs : List Us) : Prop := ∀ (j : Nat) x, xs[j]? = some x →
  W.cell? ⟨b, off + j * 5, none⟩ = some (.int .i64 x.1) ∧ W.cell? ⟨b, off + j * 5 + 1, none⟩ = some (.int .i64 x.2.1) ∧ W.cell? ⟨b, off + j * 5 + 2, none⟩ = some (.int .i64 x.2.2.1) ∧ W.cell? ⟨b, off + j * 5 + 3, none⟩ = some (.int .i64 x.2.2.2.1) ∧ W.cell? ⟨b, off + j * 5 + 4, none⟩ = some (.int .i64 x.2.2.2.2)
theorem UsesAt.turned {W w : World} {b off : Nat} {xs : List Us} {S : Nat → Prop} (h : UsesAt W b off xs) (t : Turn S W w) (hb : b < W.heap.size) (hn : ¬ S b) : UsesAt w b off xs := fun j x hx => by
  obtain ⟨h0, h1, h2, h3, h4⟩ := h j x hx
  exact ⟨(t.cell (a := ⟨b, _, none⟩) hb hn).trans h0, (t.cell (a := ⟨b, _, none⟩) hb hn).trans h1, (t.cell (a := ⟨b, _, none⟩) hb hn).trans h2, (t.cell (a := ⟨b, _, none⟩) hb hn).trans h3, (t.cell (a := ⟨b, _, none⟩) hb hn).trans h4⟩
section
variable {w w' : World} {s : SB} {n : Nat} {t : St} {sp pm : Nat} {P : Int → Option Pg} {O : Int → Nat}
theorem infoPtr : (Tryd.prog.info? 107).map (fun i => (i.zero, i.size, i.bytes)) = some (some (.pointer none), 1, 8) := by kernel_rfl
theorem vmErr_or (z : Int) : (z = 0 ∧ VmErr z = .nilIface) ∨ (z ≠ 0 ∧ VmErr z = .iface 40 (.int .i64 z)) := by
  by_cases h : z = 0
  · exact .inl ⟨h, if_pos h⟩
  · exact .inr ⟨h, if_neg h⟩
end
set_option maxHeartbeats 1000000 in
set_option maxRecDepth 100000 in
theorem vmFrames_many (z : Int) (a a2 : Option Addr) (n n2 cap cap2 : Nat) (W : World) (hn : n ≤ maxLen) (hn2 : n2 ≤ maxLen) (hb : 40 < n ∨ 10 < n2) :
    Calls Tryd.prog 9 #[.int .i64 z, .slice a n cap, .slice a2 n2 cap2] W fun e w' => e = .returned (.bool true) ∧ Turn (fun _ => False) W w' := by
  have hm : maxLen = 9223372036854775807 := rfl
  by_cases h1 : 40 < n
  · have h1' : (40 : Int) < n := by omega
    clear hb h1
    go_enter Tryd.func9, Tryd.ntmps9
    go_wp2_with fail
    go_ret
    exact ⟨rfl, Turn.refl _ _⟩
  · have h1' : ¬ (40 : Int) < n := by omega
    have h2' : (10 : Int) < n2 := by omega
    clear hb h1
    go_enter Tryd.func9, Tryd.ntmps9
    go_wp2_with fail
    go_ret
    exact ⟨rfl, Turn.refl _ _⟩

set_option maxHeartbeats 8000000 in
set_option maxRecDepth 100000 in
theorem vmFrames_few (z : Int) (a a2 : Option Addr) (xs : List Us) (fs : List Int) (cap cap2 : Nat) (W : World) (hL : Laid W) (hl : xs.length ≤ 40) (hl2 : fs.length ≤ 10)
    (hc : xs ≠ [] → ∃ b off, a = some ⟨b, off, none⟩ ∧ UsesAt W b off xs ∧ b < W.heap.size) (hc2 : fs ≠ [] → ∃ b off, a2 = some ⟨b, off, none⟩ ∧ NumsAt W b off fs ∧ b < W.heap.size) :
    Calls Tryd.prog 9 #[.int .i64 z, .slice a xs.length cap, .slice a2 fs.length cap2] W fun e w' => e = .returned (.bool true) ∧ Turn (fun _ => False) W w' := by
  have h1 : ¬ (40 : Int) < xs.length := by omega
  have h2 : ¬ (10 : Int) < fs.length := by omega
  have HC := hid hc
  have HC2 := hid hc2
  have HL := hid hL
  clear hc hc2 hL
  go_enter Tryd.func9, Tryd.ntmps9
  go_wp2_with fail
  refine (paged_is W).mono ?_
  rintro e w0 ⟨rfl, t0⟩
  have HT0 := hid t0
  clear t0
  go_wp2_with fail
  refine (pick_some z 20 w0 (by omega) (by omega)).mono ?_
  rintro e w1 ⟨k0, hk0, hk1, rfl, rfl⟩
  obtain ⟨N, rfl⟩ : ∃ N : Nat, k0 = N := ⟨k0.toNat, by omega⟩
  obtain ⟨M, hM⟩ : ∃ M, N + 1 = M := ⟨_, rfl⟩
  have hwN : IntKind.i64.wrap (1 + (N : Int)) = M := by rw [IntWalk.i64_in _ (by omega)]; omega
  have hM1 : 1 ≤ M := by omega
  have hM2 : M ≤ 20 := by omega
  have HS := hid (vmNewStore_is M w0 hM1 (by omega))
  have eM : (N : Int) + 1 = M := by omega
  clear hk0 hk1
  go_wp2_with fail
  clear eM hM hwN
  refine HS.out.mono ?_
  rintro e w2 ⟨s, t, rfl, hs, hR, hm, t2, hf⟩
  have HS2 := hid hs
  have HR := hid hR
  have HT2 := hid (HT0.out.trans t2)
  have HF := hid hf
  have hz0 := HT0.out.size
  clear hs hR hm t2 hf HS HT0
  go_wp2_with fail
  refine (vmNew_is s.sb w2).mono ?_
  rintro e w3 ⟨sp, pm, rfl, hsp, t3, hsp1, hpm1⟩
  have HK : Hid (VKeep W w3 s M t [⟨sp, pm, fun _ => none⟩]) := hid ⟨VmAll.first (HS2.out.turned t3 (fun _ _ => id)) HR.out hsp ⟨fun h => by have := HS2.out.foot_lt _ h; omega, fun h => by have := HS2.out.foot_lt _ h; omega⟩, HT2.out.trans t3, fun k hk => by
    have hz := HT2.out.size
    rcases hk with hk | ⟨i, x, hx, hk⟩
    · exact Nat.le_trans hz0 (HF.out k hk)
    · cases i with
      | zero =>
        cases hx
        rcases hk with rfl | rfl
        · omega
        · omega
      | succ i => simp at hx⟩
  have HZ := hid (HT2.out.trans t3).size
  have hz3 := (HT2.out.trans t3).size
  clear hsp t3 hsp1 hpm1 HS2 HT2 HF HR hz0
  go_wp2_with fail
  have HV : Hid (VList W (w3.alloc (.cells #[.pointer (some ⟨sp, 0, none⟩)] 107)) (.slice (some ⟨w3.heap.size, 0, none⟩) 1 1) s t.vs [⟨sp, pm, fun _ => none⟩]) := hid ⟨RowV.one w3 107 (.pointer (some ⟨sp, 0, none⟩)), fun q hq => by
    cases hq
    exact ⟨hz3, fun hf => by have : w3.heap.size < w3.heap.size := HK.out.all.foot_lt _ hf; omega⟩⟩
  have HK3 := hid (HK.out.still ((Turn.refl (fun _ => False) w3).alloc (.cells #[.pointer (some ⟨sp, 0, none⟩)] 107)))
  go_loopg [10, 11] (xs.length) (fun gl v i wr => ∃ (j : Nat) (t : St) (l : List Spc), j + gl = xs.length ∧ i = .int .i64 j ∧ Hid (VKeep W wr s M t l) ∧ Hid (VList W wr v s t.vs l) ∧ Hid (1 ≤ l.length ∧ l.length ≤ 4))
  case atStart => exact ⟨0, t, _, by omega, rfl, HK3, HV, hid ⟨by simp, by simp⟩⟩
  case round =>
    clear HK HV HK3 HZ hz3
    obtain ⟨j, t, l, hj, rfl, hK, hV, hS⟩ := hrel
    obtain ⟨g, gcap, rfl⟩ := hV.out.slice (by have := hS.out.1; intro e; rw [e] at this; simp at this)
    obtain ⟨LN, hLN⟩ : ∃ LN, l.length = LN := ⟨_, rfl⟩
    have hl1 := hS.out.1
    have hl4 := hS.out.2
    rw [hLN] at hl1 hl4 hV ⊢
    have HLN := hid hLN
    clear hLN
    by_cases hlt : j < xs.length
    · have hlt' : (j : Int) < xs.length := by omega
      obtain ⟨⟨x0, x1, x2, x3, x4⟩, hx⟩ : ∃ x, xs[j]? = some x := ⟨_, List.getElem?_eq_getElem hlt⟩
      obtain ⟨b, off, rfl, hO, hb⟩ := HC.out (by rintro rfl; simp at hlt)
      obtain ⟨d0, d1, d2, d3, d4⟩ := hO.turned hK.out.turn hb id j _ hx
      simp only at d0 d1 d2 d3 d4
      clear hO hx
      obtain ⟨kk, hkk⟩ : ∃ kk, j % LN = kk := ⟨_, rfl⟩
      have hkl : kk < LN := by rw [← hkk]; exact Nat.mod_lt _ (by omega)
      have hmod : (j : Int) % (LN : Int) = kk := by rw [← hkk]; simp
      obtain ⟨x, hxk⟩ : ∃ x, l[kk]? = some x := ⟨_, List.getElem?_eq_getElem (by rw [HLN.out]; exact hkl)⟩
      have hcell : wr.cell? ⟨g, kk, none⟩ = some (.pointer (some ⟨x.sp, 0, none⟩)) := (show VList W wr (.slice (some ⟨g, 0, none⟩) l.length gcap) s t.vs l by rw [HLN.out]; exact hV.out).cell kk x hxk
      have HX := hid hxk
      have HLf := hid (vmLeft_is hK.out.all.store)
      obtain ⟨LV, hLV⟩ : ∃ LV : Int, (M : Int) - usedN t.R M = LV := ⟨_, rfl⟩
      have hub := usedN_le t.R M
      rw [hLV] at HLf
      have HLV := hid hLV
      have hLV0 : ¬ LV < 0 := by omega
      clear hxk hkk hLV
      go_wp2_with fail
      refine HLf.out.mono ?_
      rintro e w5 ⟨rfl, rfl⟩
      have HUse := hid (keepUse_is (hK.out.all.at HX.out) x0 x1 x2 x3 x4)
      go_wp2_with fail
      refine HUse.out.mono ?_
      rintro e w6 ⟨z, P', t', rfl, z0, z15, hA, hzP, h12, _⟩
      have hAA := hK.out.all.after HX.out hA
      have HK6 := hid (hK.out.next hAA)
      have HV6 := hid (hV.out.next hAA (map_set_ptr HX.out))
      have hLn6 : (l.set kk ⟨x.sp, x.pm, P'⟩).length = LN := by rw [List.length_set]; exact HLN.out
      have hR6 : z ≠ 0 → usedN t'.R M = usedN t.R M := fun hz => used_eq (fun f hf => by
        have e1 := hA.1.refs f hf
        have e2 := (hK.out.all.at HX.out).refs f hf
        rw [e1, hzP hz, e2])
      have HR6 := hid hR6
      have H12 := hid h12
      have HY6 : Hid ((l.set kk ⟨x.sp, x.pm, P'⟩)[kk]? = some ⟨x.sp, x.pm, P'⟩) := hid (List.getElem?_set_self (by rw [HLN.out]; exact hkl))
      generalize hl6 : l.set kk ⟨x.sp, x.pm, P'⟩ = l6 at *
      have HL6 := hid hLn6
      have HLf6 := hid (vmLeft_is HK6.out.all.store)
      have hub6 := usedN_le t'.R M
      obtain ⟨LV6, hLV6⟩ : ∃ LV6 : Int, (M : Int) - usedN t'.R M = LV6 := ⟨_, rfl⟩
      rw [hLV6] at HLf6
      have hLV60 : ¬ LV6 < 0 := by omega
      have HLV6 := hid hLV6
      clear hA hzP h12 hAA hLn6 hR6 hl6 hLV6 hub6 d0 d1 d2 d3 d4 hcell hmod HUse hK hV HLf
      go_upto_region 19 with fail
      go_cut [14, 101] (fun er v wx => v = .bool false ∧ Hid (VKeep W wx s M t' l6) ∧ Hid (VList W wx (.slice (some ⟨g, 0, none⟩) LN gcap) s t'.vs l6))
      case first =>
        --<<
        as_aux_lemma =>
          rcases vmErr_or z with ⟨rfl, ez⟩ | ⟨hz, ez⟩
          · rw [ez]
            have hd : decide (LV6 < 0) = false := decide_eq_false (by omega)
            clear ez
            go_wp2_with fail
            refine (tell_nil w6).mono ?_
            rintro e w7 ⟨rfl, rfl⟩
            go_wp2_with fail
            refine HLf6.out.mono ?_
            rintro e w8 ⟨rfl, rfl⟩
            go_wp2_with fail
            go_meet
            exact ⟨rfl, HK6, HV6⟩
          · rw [ez]
            have hLe : LV6 = LV := by
              have h1 := HR6.out hz
              have h2 := HLV6.out
              have h3 := HLV.out
              omega
            rw [hLe] at HLf6
            have hne : (LV != LV) = false := by simp
            have hd : decide (LV < 0) = false := decide_eq_false (by omega)
            have hz12 : z = 12 → ¬ 0 < LV := fun h => by
              have h1 := H12.out h
              have h2 := HLV.out
              omega
            clear ez hz
            go_wp2_with fail
            refine HLf6.out.mono ?_
            rintro e w7 ⟨rfl, rfl⟩
            go_wp2_with fail
            refine (tell_errno z w6 (HL.out.turned0 HK6.out.turn)).mono ?_
            rintro e w8 ⟨rfl, t8⟩
            have HK8 := hid (HK6.out.still t8)
            have HV8 := hid (HV6.out.still t8)
            have HLf8 := hid (vmLeft_is HK8.out.all.store)
            rw [HLV6.out, hLe] at HLf8
            clear t8 hLe
            by_cases h12 : z = 12
            · have hp : decide (0 < LV) = false := decide_eq_false (by have := hz12 h12; omega)
              have hb12 : (z == 12) = true := by simp [h12]
              clear h12 hz12
              go_wp2_with fail
              refine HLf8.out.mono ?_
              rintro e w9 ⟨rfl, rfl⟩
              go_wp2_with fail
              go_meet
              exact ⟨rfl, HK8, HV8⟩
            · have hb12 : (z == 12) = false := by simp [h12]
              clear h12 hz12
              go_wp2_with fail
              refine HLf8.out.mono ?_
              rintro e w9 ⟨rfl, rfl⟩
              go_wp2_with fail
              go_meet
              exact ⟨rfl, HK8, HV8⟩
        -->>
      case rest =>
        obtain ⟨rfl, hK7, hV7⟩ := hcut
        have HL7 := hid (HL6.out)
        have HNum := hid (contains_nums (w := wc) (a := a2) (xs := fs) (cap := cap2) (fun hne => by
          obtain ⟨b2, off2, rfl, hn2, hb2⟩ := HC2.out hne
          exact ⟨b2, off2, rfl, hn2.turned hK7.out.turn hb2 id⟩) (j : Int) (by omega))
        have HLf7 := hid (vmLeft_is hK7.out.all.store)
        rw [HLV6.out] at HLf7
        obtain ⟨inF, hinF⟩ : ∃ b : Bool, decide ((j : Int) ∈ fs) = b := ⟨_, rfl⟩
        rw [hinF] at HNum
        clear hinF HK6 HV6 HLf6 HR6 H12
        obtain ⟨fk, hfk⟩ : ∃ fk : Bool, (inF && decide (LN < 4)) = fk := ⟨_, rfl⟩
        have HFkE := hid hfk
        clear hfk
        go_upto_region 21 with fail
        go_cut [109] (fun v wx => v = .bool fk ∧ Hid (Turn (fun _ => False) wc wx))
        case first =>
          --<<
          as_aux_lemma =>
            cases inF with
            | false =>
              have e : fk = false := by rw [← HFkE.out]; rfl
              clear HFkE
              subst e
              go_wp2_with fail
              refine HNum.out.mono ?_
              rintro e w7 ⟨rfl, rfl⟩
              go_wp2_with fail
              go_meet
              exact ⟨rfl, hid (Turn.refl _ _)⟩
            | true =>
              by_cases h4 : LN < 4
              · have h4' : decide ((LN : Int) < 4) = true := decide_eq_true (by omega)
                have e : fk = true := by rw [← HFkE.out]; simp [h4]
                clear HFkE h4
                subst e
                go_wp2_with fail
                refine HNum.out.mono ?_
                rintro e w7 ⟨rfl, rfl⟩
                go_wp2_with fail
                go_meet
                exact ⟨rfl, hid (Turn.refl _ _)⟩
              · have h4' : decide ((LN : Int) < 4) = false := decide_eq_false (by omega)
                have e : fk = false := by rw [← HFkE.out]; simp [h4]
                clear HFkE h4
                subst e
                go_wp2_with fail
                refine HNum.out.mono ?_
                rintro e w7 ⟨rfl, rfl⟩
                go_wp2_with fail
                go_meet
                exact ⟨rfl, hid (Turn.refl _ _)⟩
          -->>
        case rest =>
        obtain ⟨rfl, ht⟩ := hcut
        have hf4 : fk = true → LN < 4 := fun h => by
          have := HFkE.out
          rw [h] at this
          simp at this
          exact this.2
        have HF4 := hid hf4
        replace hK7 := hid (hK7.out.still ht.out)
        replace hV7 := hid (hV7.out.still ht.out)
        replace HLf7 := hid (vmLeft_is hK7.out.all.store)
        rw [HLV6.out] at HLf7
        clear HNum HFkE ht hf4
        go_upto_if 109 with fail
        go_cut [10] (fun v wx => ∃ (t8 : St) (l8 : List Spc), Hid (VKeep W wx s M t8 l8) ∧ Hid (VList W wx v s t8.vs l8) ∧ Hid (1 ≤ l8.length ∧ l8.length ≤ 4))
        case first =>
          --<<
          as_aux_lemma =>
            cases fk with
            | false =>
              go_wp2_with fail
              go_meet
              exact ⟨t', l6, hK7, hV7, hid (by have := HL7.out; omega)⟩
            | true =>
              have h4 := HF4.out rfl
              have hxl : kk < l6.length := by rw [HL7.out]; exact hkl
              obtain ⟨y, hy, hys⟩ : ∃ y, l6[kk]? = some y ∧ y.sp = x.sp := ⟨_, HY6.out, rfl⟩
              have HY := hid hy
              have HFk := hid (vmFork_is hK7.out.all.store (hK7.out.all.sps kk y hy) (hK7.out.all.off kk y hy) (fun f hf => by rw [hK7.out.all.refs f hf]; exact sumC_pos hy f) (fun f hf => R_small hK7.out.all (by rw [HL7.out]; omega) f hf))
              rw [hys] at HFk
              clear hy hys
              go_wp2_with fail
              refine HLf7.out.mono ?_
              rintro e w8 ⟨rfl, rfl⟩
              go_wp2_with fail
              refine HFk.out.mono ?_
              rintro e w9 ⟨sp2, pm2, rl, rfl, hS9, hA9, hR9, l9, l9'⟩
              have hAA := hK7.out.all.forked HY.out hS9 hA9 hR9 l9 l9'
              have HK9 := hid (hK7.out.next hAA)
              have hu9 : usedN ({ t' with rl := rl } : St).R M = usedN t'.R M := used_same hR9 (fun f hf => by rw [hK7.out.all.refs f hf]; exact sumC_pos HY.out f)
              have HLf9 := hid (vmLeft_is HK9.out.all.store)
              rw [hu9, HLV6.out] at HLf9
              have HAA := hid hAA
              have hne : (LV6 != LV6) = false := by simp
              have HRow : Hid (RowV (w9.alloc (.cells #[.pointer (some ⟨sp2, 0, none⟩)] 107)) 107 (.slice (some ⟨g, 0, none⟩) LN gcap) (l6.map ptrOf)) := hid ((hV7.out.row.turned hAA.2.1 (fun q hq => (hV7.out.own q hq).2)).turned ((Turn.refl (fun _ => False) _).alloc _) (fun _ _ => id))
              have HCel : Hid ((w9.alloc (.cells #[.pointer (some ⟨sp2, 0, none⟩)] 107)).cell? ⟨w9.heap.size, 0, none⟩ = some (.pointer (some ⟨sp2, 0, none⟩))) := hid (by simp)
              have hll : (l6.map ptrOf).length ≤ 1000000 := by rw [List.length_map, HL7.out]; omega
              clear hAA hu9 hS9 hA9 hR9 l9 l9' HFk
              go_wp2_with fail
              refine HLf9.out.mono ?_
              rintro e w10 ⟨rfl, rfl⟩
              go_wp2_with (at_builtin; refine wpList_append_val rfl _ _ rfl Tryd.underlying110 infoPtr rfl (by decide) (.slice (some ⟨g, 0, none⟩) LN gcap) (l6.map ptrOf) rfl HRow.out w9.heap.size 1 (.pointer (some ⟨sp2, 0, none⟩)) rfl HCel.out rfl hll ?_; intro g3 z3 w11 hr11 t11 ho11; have HR11 := hid hr11; have HT11 := hid t11; have HO11 := hid ho11; clear hr11 t11 ho11)
              go_meet
              have hfin := hV7.out.grown hK7.out HAA.out ((Turn.refl (fun _ => False) w9).alloc (.cells #[.pointer (some ⟨sp2, 0, none⟩)] 107)) HR11.out HT11.out HO11.out
              exact ⟨_, _, hid hfin.1, hid (by have h := hfin.2; rw [List.length_map] at h; exact h), hid (by rw [List.length_append, HL7.out]; simp only [List.length_singleton]; omega)⟩
          -->>
        case rest =>
          obtain ⟨t8, l8, hK8, hV8, hS8⟩ := hcut
          obtain ⟨g8, cap8, rfl⟩ := hV8.out.slice (by have := hS8.out.1; intro e; rw [e] at this; simp at this)
          have HMost := hid (fun (k : Nat) (x : Spc) (hk : l8[k]? = some x) => hK8.out.all.most hk)
          have HSum := hid hK8.out.all.sum
          have hl84 := hS8.out.2
          have hub8 := usedN_le t8.R M
          obtain ⟨U, hU⟩ : ∃ U, usedN t8.R M = U := ⟨_, rfl⟩
          rw [hU] at HMost HSum hub8
          have HU := hid hU
          clear hU HLf7 HY6 HF4 hK7 hV7
          go_wp2_with fail
          go_loopg [17, 18, 19] (l8.length) (fun gl mv sv iv wx => ∃ (k mx : Nat), k + gl = l8.length ∧ iv = .int .i64 k ∧ mv = .int .i64 mx ∧ sv = .int .i64 (sumR (l8.take k)) ∧ mx ≤ U ∧ Hid (Turn (fun _ => False) wc wx))
          case atStart => exact ⟨0, 0, by omega, rfl, rfl, rfl, by omega, hid (Turn.refl _ _)⟩
          case round =>
            obtain ⟨k, mx, hk, rfl, rfl, rfl, hmx, hT⟩ := hrel
            by_cases hkl8 : k < l8.length
            · have hkl8' : (k : Int) < l8.length := by omega
              obtain ⟨y, hy⟩ : ∃ y, l8[k]? = some y := ⟨_, List.getElem?_eq_getElem hkl8⟩
              have hc8 := (hV8.out.still hT.out).cell k y hy
              have HRs : Hid (∀ w', Turn (fun _ => False) wc w' → Calls Tryd.prog 73 #[.pointer (some ⟨y.sp, 0, none⟩)] w' fun e w'' => e = .returned (.int .i64 (resP y.P)) ∧ Turn (fun _ => False) w' w'') := hid (fun w' tt => vmRes_is ((hK8.out.still tt).all.sps k y hy))
              have hr64 := resP_le y.P
              have hrU := HMost.out k y hy
              have hsum : sumR (l8.take (k + 1)) = sumR (l8.take k) + resP y.P := by
                rw [List.take_add_one, hy]
                unfold sumR
                simp
              have hsle : sumR (l8.take k) ≤ 4 * 64 := Nat.le_trans (sumR_le _) (Nat.mul_le_mul_right _ (by rw [List.length_take]; omega))
              obtain ⟨R, hR⟩ : ∃ R, resP y.P = R := ⟨_, rfl⟩
              obtain ⟨SS, hSS⟩ : ∃ SS, sumR (l8.take k) = SS := ⟨_, rfl⟩
              rw [hR] at HRs hr64 hrU hsum
              rw [hSS] at hsum hsle
              have HSm := hid hsum
              clear hy hsum hR
              rw [hSS]
              clear hSS
              have hw8 : IntKind.i64.wrap ((SS : Int) + R) = SS + R := IntWalk.i64_in _ (by omega)
              go_wp2_with fail
              refine (HRs.out _ hT.out).mono ?_
              rintro e w12 ⟨rfl, t12⟩
              have HT12 := hid (hT.out.trans t12)
              have hc9 := (t12.cell (a := ⟨g8, k, none⟩) (lt_of_cell hc8) id).trans hc8
              clear t12
              go_wp2_with fail
              all_goals
                refine (HRs.out _ HT12.out).mono ?_
                rintro e w13 ⟨rfl, t13⟩
                have HT13 := hid (HT12.out.trans t13)
                clear t13
                go_wp2_with fail
                go_roundg (gk - 1)
                case measure => omega
                case rel => exact ⟨k + 1, max mx R, by omega, by go_num, (by first | rfl | (congr 1; omega)), by rw [HSm.out]; go_num, by omega, HT13⟩
            · have hkl8' : ¬ (k : Int) < l8.length := by omega
              obtain rfl : k = l8.length := by omega
              rw [List.take_length]
              have hK9 := hK8.out.still hT.out
              have HK9 := hid hK9
              have HV9 := hid (hV8.out.still hT.out)
              have HLf9 := hid (vmLeft_is hK9.all.store)
              rw [HU.out] at HLf9
              have hw9 : IntKind.i64.wrap ((M : Int) - ((M : Int) - U)) = U := by rw [IntWalk.i64_in _ (by omega)]; omega
              have hs1 : ¬ (U : Int) < mx := by omega
              obtain ⟨SS, hSS⟩ : ∃ SS, sumR l8 = SS := ⟨_, rfl⟩
              rw [hSS] at HSum ⊢
              have hs2 : ¬ (SS : Int) < U := by have := HSum.out; omega
              clear hSS hK9
              go_wp2_with fail
              refine HLf9.out.mono ?_
              rintro e w14 ⟨rfl, rfl⟩
              go_wp2_with fail
              go_roundg (xs.length - (j + 1))
              case measure => omega
              case rel => exact ⟨j + 1, t8, l8, by omega, by go_num, HK9, HV9, hS8⟩
    · have hlt' : ¬ (j : Int) < xs.length := by omega
      have HLN4 := hid hl4
      clear hl1 hl4
      go_wp2_with fail
      go_loopg [21] LN (fun gl iv wx => ∃ (k : Nat) (tk : St) (lk : List Spc), k + gl = LN ∧ iv = .int .i64 k ∧ Hid (lk.length = LN) ∧ Hid (VKeep W wx s M tk lk) ∧ Hid (VList W wx (.slice (some ⟨g, 0, none⟩) LN gcap) s tk.vs lk) ∧ Hid (∀ (i : Nat) (y : Spc), lk[i]? = some y → i < k → y.P = fun _ => none))
      case atStart => exact ⟨0, t, l, by omega, rfl, HLN, hK, hV, hid (fun i y _ h => by omega)⟩
      case round =>
        clear hK hV
        obtain ⟨k, tk, lk, hk, rfl, hLk, hK, hV, hN⟩ := hrel
        by_cases hkl : k < LN
        · have hb4 := HLN4.out
          have hkl' : (k : Int) < LN := by omega
          obtain ⟨y, hy⟩ : ∃ y, lk[k]? = some y := ⟨_, List.getElem?_eq_getElem (by rw [hLk.out]; exact hkl)⟩
          have hcell : wr.cell? ⟨g, k, none⟩ = some (.pointer (some ⟨y.sp, 0, none⟩)) := (show VList W wr (.slice (some ⟨g, 0, none⟩) lk.length gcap) s tk.vs lk by rw [hLk.out]; exact hV.out).cell k y hy
          have HCl := hid (vmClear_is (hK.out.all.at hy))
          have HY := hid hy
          clear hy
          go_wp2_with fail
          refine HCl.out.mono ?_
          rintro e w5 ⟨rfl, t5, hm5, hA5⟩
          have hAA := hK.out.all.after HY.out hA5
          have HK5 := hid (hK.out.next hAA)
          have HV5 := hid (hV.out.next hAA (map_set_ptr HY.out))
          have HL5 : Hid ((lk.set k ⟨y.sp, y.pm, fun _ => none⟩).length = LN) := hid (by rw [List.length_set]; exact hLk.out)
          have HN5 : Hid (∀ (i : Nat) (z : Spc), (lk.set k ⟨y.sp, y.pm, fun _ => none⟩)[i]? = some z → i < k + 1 → z.P = fun _ => none) := hid (fun i z hi hik => by
            by_cases e : i = k
            · subst e
              rw [List.getElem?_set_self (by rw [hLk.out]; exact hkl)] at hi
              cases hi; rfl
            · rw [List.getElem?_set_ne (fun e2 => e e2.symm)] at hi
              exact hN.out i z hi (by omega))
          clear hm5 hA5 hAA HCl hcell
          go_wp2_with fail
          go_roundg (gk - 1)
          case measure => omega
          case rel => exact ⟨k + 1, t5, _, by omega, by go_num, HL5, HK5, HV5, HN5⟩
        · have hkl' : ¬ (k : Int) < LN := by omega
          obtain rfl : k = LN := by omega
          have hu := hK.out.all.empty (fun i y hi => hN.out i y hi (by have := (List.getElem?_eq_some_iff.1 hi).1; have := hLk.out; omega))
          have HLf := hid (vmLeft_is hK.out.all.store)
          rw [hu] at HLf
          have hM0 : (M : Int) - ((0 : Nat) : Int) = M := by omega
          rw [hM0] at HLf
          clear hu hM0
          go_wp2_with fail
          refine HLf.out.mono ?_
          rintro e w14 ⟨rfl, rfl⟩
          have hMM : ((M : Int) == M) = true := by simp
          go_wp2_with fail
          go_ret
          exact ⟨rfl, hK.out.turn⟩
end Go.Proofs.YtiohpmcedfbcgabDoor
