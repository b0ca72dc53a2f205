/- TreeStays walked: true, and nothing that was there turns. Conditions: each theorem's own premises. -/
import Derived.Test.YtiohpmcedfbcgabDoorTreeFlat
import Derived.Test.YtiohpmcedfbcgabDoorTreeNamed
import Derived.Test.YtiohpmcedfbcgabDoorPick
namespace Go.Proofs.YtiohpmcedfbcgabDoor
open Go.RowKit
set_option linter.unusedVariables false

set_option maxRecDepth 100000 in
theorem treeStays_long (path other s : ByteArray) (z : Int) (w : World) (h : 60 < path.size ∨ 60 < other.size ∨ 100 < s.size) :
    Calls Tryd.prog 11 #[.string path, .string other, .string s, .int .i64 z] w fun e w' => e = .returned (.bool true) ∧ Turn (fun _ => False) w w' := by
  by_cases h1 : 60 < path.size
  · have h1' : (60 : Int) < path.size := by omega
    clear h h1
    go_enter Tryd.func11, Tryd.ntmps11
    go_wp2_with fail
    go_returns
    exact ⟨rfl, Turn.refl _ _⟩
  · have h1' : ¬ (60 : Int) < path.size := by omega
    by_cases h2 : 60 < other.size
    · have h2' : (60 : Int) < other.size := by omega
      clear h h1 h2
      go_enter Tryd.func11, Tryd.ntmps11
      go_wp2_with fail
      go_returns
      exact ⟨rfl, Turn.refl _ _⟩
    · have h2' : ¬ (60 : Int) < other.size := by omega
      have h3' : (100 : Int) < s.size := by omega
      clear h h1 h2
      go_enter Tryd.func11, Tryd.ntmps11
      go_wp2_with fail
      go_returns
      exact ⟨rfl, Turn.refl _ _⟩
set_option maxHeartbeats 8000000 in
set_option maxRecDepth 100000 in
theorem treeStays_is (path other s : ByteArray) (z : Int) (W : World) (hp : path.size ≤ 60) (ho : other.size ≤ 60) (hs : s.size ≤ 100) :
    Calls Tryd.prog 11 #[.string path, .string other, .string s, .int .i64 z] W fun e w' => e = .returned (.bool true) ∧ Turn (fun _ => False) W w' := by
  have h1' : ¬ (60 : Int) < path.size := by omega
  have h2' : ¬ (60 : Int) < other.size := by omega
  have h3' : ¬ (100 : Int) < s.size := by omega
  have te : TErr 0 = .nilIface := rfl
  go_enter Tryd.func11, Tryd.ntmps11
  go_wp2_with fail
  refine (named_is W).mono ?_
  rintro e w0 ⟨rfl, t0⟩
  have HT0 := hid t0
  clear t0
  go_wp2_with fail
  refine (law_new w0).mono ?_
  rintro e w1 ⟨tb, rfl, h1⟩
  have HC := hid (law_create h1 path (by omega))
  clear h1
  go_wp2_with fail
  refine HC.out.mono ?_
  rintro e w2 ⟨rfl, h2⟩
  clear HC
  rcases createRoot path with ⟨hE, hT⟩ | ⟨sn, hn, hE, hK, hT⟩
  · rw [hT] at h2
    have hK : makeK rootT path = 0 := if_neg hE
    have hl := law_nodes h2
    have hlen : (rootT.length : Int) = 1 := rfl
    rw [hlen] at hl
    have HN := hid hl
    have HT2 := hid h2.turn
    rw [TErr_of hE, hK]
    clear hE hT h2 hl hlen hK
    go_wp2_with fail
    refine HN.out.mono ?_
    rintro e w3 ⟨rfl, hw⟩; subst w3
    go_wp2_with fail
    go_returns
    exact ⟨rfl, HT0.out.trans HT2.out⟩
  · rw [hT] at h2
    rw [hE, hK]
    have HNm := hid hn
    have H2 := hid h2
    clear hE hT h2 hK hn
    go_wp2_with fail
    refine (pick_some z 90 w2 (by omega) (by omega)).mono ?_
    rintro e w3 ⟨k0, hk0, hk1, rfl, hw⟩; subst w3
    obtain ⟨A, rfl⟩ : ∃ A : Nat, k0 = A := ⟨k0.toNat, by omega⟩
    have hH := law_hold H2.out 1 (fun p hp => (TS_bounds (by simp) (by omega) (by omega) 1 p hp).2.2)
    rw [holdTS.1, holdTS.2] at hH
    have HH := hid hH
    clear hH
    go_wp2_with fail
    refine HH.out.mono ?_
    rintro e w4 ⟨rfl, h4⟩
    obtain ⟨wE, wT⟩ := writeTS (ds := [(sn, 1)]) (x := ByteArray.empty) (names := 1) (held := 1) (s := s) (at' := (A : Int)) (by omega) (by omega)
    have hW := law_write h4 1 A s (by omega)
    rw [wE, wT] at hW
    obtain ⟨X, hX⟩ : ∃ X, (if s.size = 0 then ByteArray.empty else writeB ByteArray.empty (A : Int).toNat s) = X := ⟨_, rfl⟩
    rw [hX] at hW
    have HX := hid hX
    have HW := hid hW
    clear h4 wE wT hW hX HH H2
    go_wp2_with fail
    refine HW.out.mono ?_
    rintro e w5 ⟨rfl, h5⟩
    have hds1 : ∀ e ∈ [(sn, (1 : Int))], e.2 = 1 := fun e he => by rw [List.mem_singleton.1 he]
    have hget1 : mget [(sn, (1 : Int))] sn = some 1 := by simp [mget]
    have HLk := hid (law_link h5 path other (by omega) (by omega) (fun n p hp => (TS_bounds (by simp) (by omega) (by omega) n p hp).1))
    have HOr := hid (linkTS (x := X) (names := 1) (held := 1) hds1 HNm.out (by rw [hget1]; rfl) other)
    clear h5 HW hds1 hget1
    rcases HOr.out with ⟨hE, hT⟩ | ⟨s2, hn2, hno, hE, hT⟩
    · go_wp2_with fail
      refine HLk.out.mono ?_
      rintro e w6 ⟨rfl, h6⟩
      rw [hT] at h6
      rw [TErr_of hE]
      have HFd := hid (law_find h6 other (by omega))
      clear hE hT h6 HLk HOr
      go_wp2_with fail
      refine HFd.out.mono ?_
      rintro e w7 ⟨rfl, h7⟩
      obtain ⟨uE, uT⟩ := unlinkTS (x := X) (names := 1) (held := 1) (ds := [(sn, 1)]) (fun e he => by rw [List.mem_singleton.1 he]) HNm.out (by simp [mget])
      have hU := law_unlink h7 path (by omega) (fun n p hp => ⟨(TS_bounds (by simp) (by omega) (by omega) n p hp).1, (TS_bounds (by simp) (by omega) (by omega) n p hp).2.1⟩)
      have hdel : mdel [(sn, (1 : Int))] sn = [] := by simp [mdel]
      rw [uE, uT, goneTS_held (by omega), hdel] at hU
      have HU := hid hU
      obtain ⟨fz, hfz⟩ : ∃ fz, TErr (findT (TS [(sn, 1)] X 1 1) other).1 = fz := ⟨_, rfl⟩
      rw [hfz]
      clear uE uT hU h7 hdel HFd hfz
      go_wp2_with fail
      refine HU.out.mono ?_
      rintro e w8 ⟨rfl, h8⟩
      have HT8 : Hid (TreeLaw w0 w8 tb (TS [] X 0 1)) := hid h8
      clear h8 HU
      have hR := law_read HT8.out 1 A s.size
      obtain ⟨rE, rT⟩ := readTS (ds := []) (x := X) (names := 0) (held := 1) (at' := (A : Int)) (many := (s.size : Int)) (by omega) (by omega)
      have hrs : readB X (A : Int).toNat (s.size : Int).toNat = s := by
        rw [← HX.out]
        simp only [Int.toNat_natCast]
        by_cases e : s.size = 0
        · rw [if_pos e, readB_empty]; exact (empty_of_size e).symm
        · rw [if_neg e, writeB_empty]; exact readB_behind A s
      rw [rE, rT, hrs] at hR
      have HR := hid hR
      clear rE rT hrs hR
      go_wp2_with fail
      refine HR.out.mono ?_
      rintro e w10 ⟨rfl, h10⟩
      have hN := law_nodes h10
      have hlen : ((TS [] X 0 1).length : Int) = 2 := rfl
      rw [hlen] at hN
      have HN := hid hN
      have H10 := hid h10
      have ess : (s.toList != s.toList) = false := by simp
      clear h10 hN hlen HR HT8
      go_wp2_with fail
      refine HN.out.mono ?_
      rintro e w11 ⟨rfl, hw⟩; subst w11
      have hR := law_read H10.out 1 0 A
      obtain ⟨rE, rT⟩ := readTS (ds := []) (x := X) (names := 0) (held := 1) (at' := 0) (many := (A : Int)) (by omega) (by omega)
      rw [rE, rT] at hR
      have HR := hid hR
      clear rE rT hR
      go_wp2_with fail
      refine HR.out.mono ?_
      rintro e w12 ⟨rfl, h12⟩
      have hF := law_find h12 path (by omega)
      have hf : findT (TS [] X 0 1) path = (7, 0) := by rw [findTS (fun e he => by cases he) HNm.out]; rfl
      rw [hf] at hF
      have HRp := hid (repeat_is A (by omega) w12)
      have H12 := hid h12
      have hy : s.size ≠ 0 → readB X (0 : Int).toNat (A : Int).toNat = zerosB A := fun e => by
        rw [← HX.out]
        simp only [Int.toNat_natCast]
        rw [if_neg e, writeB_empty]; exact readB_ahead A s
      have HY := hid hy
      obtain ⟨Y, hYY⟩ : ∃ Y, readB X (0 : Int).toNat (A : Int).toNat = Y := ⟨_, rfl⟩
      rw [hYY] at HY ⊢
      clear hF hf h12 HR hy hYY
      -- the last test of bytes, then the end
      go_upto_region 24 with fail
      go_cut [135] (fun v wx => v = .bool false ∧ Hid (TreeLaw w0 wx tb (TS [] X 0 1)))
      case first =>
        as_aux_lemma =>
          by_cases he : s.size = 0
          · have hemp : s.toList.isEmpty = true := by rw [toList_empty]; exact decide_eq_true he
            clear he
            go_wp2_with fail
            go_meet
            exact ⟨rfl, H12⟩
          · have hemp : s.toList.isEmpty = false := by rw [toList_empty]; exact decide_eq_false he
            have hyy := HY.out he
            subst hyy
            have ezz : ((zerosB A).toList != (zerosB A).toList) = false := by simp
            clear he
            go_wp2_with fail
            refine HRp.out.mono ?_
            rintro e w13 ⟨rfl, t13⟩
            have H13 := hid (H12.out.still t13)
            clear t13
            go_wp2_with fail
            go_meet
            exact ⟨rfl, H13⟩
      case rest =>
        obtain ⟨rfl, hTc⟩ := hcut
        have hF := law_find hTc.out path (by omega)
        have hf : findT (TS [] X 0 1) path = (7, 0) := by rw [findTS (fun e he => by cases he) HNm.out]; rfl
        rw [hf] at hF
        have HF := hid hF
        clear hF hf H12 HRp HY
        have te7 : TErr 7 = .iface 40 (.int .i64 7) := rfl
        go_wp2_with fail
        refine HF.out.mono ?_
        rintro e w14 ⟨rfl, h14⟩
        have hD := law_drop h14 1 (fun p hp => (TS_bounds (by simp) (by omega) (by omega) 1 p hp).2.2)
        rw [dropTS.1, dropTS.2] at hD
        have HD := hid hD
        clear hD h14 HF
        go_wp2_with fail
        refine HD.out.mono ?_
        rintro e w15 ⟨rfl, h15⟩
        have hN := law_nodes h15
        have hlen : (rootT.length : Int) = 1 := rfl
        rw [hlen] at hN
        have HN2 := hid hN
        have hH := law_hold h15 1 (fun p hp => by cases hp)
        have hfe : fileE rootT 1 = 7 := rfl
        rw [hfe] at hH
        have HH2 := hid hH
        clear hN hlen hH hfe h15 HD
        go_wp2_with fail
        refine HN2.out.mono ?_
        rintro e w16 ⟨rfl, hw⟩; subst w16
        go_wp2_with fail
        refine HH2.out.mono ?_
        rintro e w17 ⟨rfl, h17⟩
        have HT17 := hid h17.turn
        clear h17
        go_wp2_with fail
        go_returns
        exact ⟨rfl, HT0.out.trans HT17.out⟩
    · go_wp2_with fail
      refine HLk.out.mono ?_
      rintro e w6 ⟨rfl, h6⟩
      rw [hT] at h6
      rw [hE]
      have hne : s2 ≠ sn := fun e => by rw [e] at hno; simp [mget] at hno
      have hput : mput [(sn, (1 : Int))] s2 1 = [(sn, 1), (s2, 1)] := by
        unfold mput
        rw [hno]; rfl
      rw [hput] at h6
      have hds2 : ∀ e ∈ [(sn, (1 : Int)), (s2, 1)], e.2 = 1 := fun e he => by
        simp only [List.mem_cons, List.not_mem_nil, or_false] at he
        rcases he with rfl | rfl <;> rfl
      have hg2 : mget [(sn, (1 : Int)), (s2, 1)] s2 = some 1 := by simp [mget, Ne.symm hne]
      have hFd := law_find h6 other (by omega)
      rw [findTS hds2 hn2, hg2] at hFd
      simp only [Option.elim] at hFd
      have HFd := hid hFd
      have HDs2 := hid hds2
      have HNe := hid hne
      have HN2 := hid hn2
      clear hE hT h6 HLk HOr hno hput hds2 hg2 hFd hne hn2
      go_wp2_with fail
      refine HFd.out.mono ?_
      rintro e w7 ⟨rfl, h7⟩
      have hne := HNe.out
      obtain ⟨uE, uT⟩ := unlinkTS (x := X) (names := 2) (held := 1) HDs2.out HNm.out (by simp [mget])
      have hU := law_unlink h7 path (by omega) (fun n p hp => ⟨(TS_bounds (by simp) (by omega) (by omega) n p hp).1, (TS_bounds (by simp) (by omega) (by omega) n p hp).2.1⟩)
      have hdel : mdel [(sn, (1 : Int)), (s2, 1)] sn = [(s2, 1)] := by simp [mdel, hne]
      rw [uE, uT, goneTS_held (by omega), hdel] at hU
      have HU := hid hU
      clear uE uT hU h7 hdel HFd hne
      go_wp2_with fail
      refine HU.out.mono ?_
      rintro e w8 ⟨rfl, h8⟩
      obtain ⟨uE, uT⟩ := unlinkTS (x := X) (names := 1) (held := 1) (ds := [(s2, 1)]) (fun e he => by rw [List.mem_singleton.1 he]) HN2.out (by simp [mget])
      have hU := law_unlink h8 other (by omega) (fun n p hp => ⟨(TS_bounds (by simp) (by omega) (by omega) n p hp).1, (TS_bounds (by simp) (by omega) (by omega) n p hp).2.1⟩)
      have hdel : mdel [(s2, (1 : Int))] s2 = [] := by simp [mdel]
      rw [uE, uT, goneTS_held (by omega), hdel] at hU
      have HU2 := hid hU
      clear uE uT hU h8 hdel HU
      go_wp2_with fail
      refine HU2.out.mono ?_
      rintro e w9 ⟨rfl, h9⟩
      have HT8 : Hid (TreeLaw w0 w9 tb (TS [] X 0 1)) := hid h9
      clear h9 HU2
      have hR := law_read HT8.out 1 A s.size
      obtain ⟨rE, rT⟩ := readTS (ds := []) (x := X) (names := 0) (held := 1) (at' := (A : Int)) (many := (s.size : Int)) (by omega) (by omega)
      have hrs : readB X (A : Int).toNat (s.size : Int).toNat = s := by
        rw [← HX.out]
        simp only [Int.toNat_natCast]
        by_cases e : s.size = 0
        · rw [if_pos e, readB_empty]; exact (empty_of_size e).symm
        · rw [if_neg e, writeB_empty]; exact readB_behind A s
      rw [rE, rT, hrs] at hR
      have HR := hid hR
      clear rE rT hrs hR
      go_wp2_with fail
      refine HR.out.mono ?_
      rintro e w10 ⟨rfl, h10⟩
      have hN := law_nodes h10
      have hlen : ((TS [] X 0 1).length : Int) = 2 := rfl
      rw [hlen] at hN
      have HN := hid hN
      have H10 := hid h10
      have ess : (s.toList != s.toList) = false := by simp
      clear h10 hN hlen HR HT8
      go_wp2_with fail
      refine HN.out.mono ?_
      rintro e w11 ⟨rfl, hw⟩; subst w11
      have hR := law_read H10.out 1 0 A
      obtain ⟨rE, rT⟩ := readTS (ds := []) (x := X) (names := 0) (held := 1) (at' := 0) (many := (A : Int)) (by omega) (by omega)
      rw [rE, rT] at hR
      have HR := hid hR
      clear rE rT hR
      go_wp2_with fail
      refine HR.out.mono ?_
      rintro e w12 ⟨rfl, h12⟩
      have hF := law_find h12 path (by omega)
      have hf : findT (TS [] X 0 1) path = (7, 0) := by rw [findTS (fun e he => by cases he) HNm.out]; rfl
      rw [hf] at hF
      have HRp := hid (repeat_is A (by omega) w12)
      have H12 := hid h12
      have hy : s.size ≠ 0 → readB X (0 : Int).toNat (A : Int).toNat = zerosB A := fun e => by
        rw [← HX.out]
        simp only [Int.toNat_natCast]
        rw [if_neg e, writeB_empty]; exact readB_ahead A s
      have HY := hid hy
      obtain ⟨Y, hYY⟩ : ∃ Y, readB X (0 : Int).toNat (A : Int).toNat = Y := ⟨_, rfl⟩
      rw [hYY] at HY ⊢
      clear hF hf h12 HR hy hYY
      -- the last test of bytes, then the end
      go_upto_region 24 with fail
      go_cut [135] (fun v wx => v = .bool false ∧ Hid (TreeLaw w0 wx tb (TS [] X 0 1)))
      case first =>
        as_aux_lemma =>
          by_cases he : s.size = 0
          · have hemp : s.toList.isEmpty = true := by rw [toList_empty]; exact decide_eq_true he
            clear he
            go_wp2_with fail
            go_meet
            exact ⟨rfl, H12⟩
          · have hemp : s.toList.isEmpty = false := by rw [toList_empty]; exact decide_eq_false he
            have hyy := HY.out he
            subst hyy
            have ezz : ((zerosB A).toList != (zerosB A).toList) = false := by simp
            clear he
            go_wp2_with fail
            refine HRp.out.mono ?_
            rintro e w13 ⟨rfl, t13⟩
            have H13 := hid (H12.out.still t13)
            clear t13
            go_wp2_with fail
            go_meet
            exact ⟨rfl, H13⟩
      case rest =>
        obtain ⟨rfl, hTc⟩ := hcut
        have hF := law_find hTc.out path (by omega)
        have hf : findT (TS [] X 0 1) path = (7, 0) := by rw [findTS (fun e he => by cases he) HNm.out]; rfl
        rw [hf] at hF
        have HF := hid hF
        clear hF hf H12 HRp HY
        have te7 : TErr 7 = .iface 40 (.int .i64 7) := rfl
        go_wp2_with fail
        refine HF.out.mono ?_
        rintro e w14 ⟨rfl, h14⟩
        have hD := law_drop h14 1 (fun p hp => (TS_bounds (by simp) (by omega) (by omega) 1 p hp).2.2)
        rw [dropTS.1, dropTS.2] at hD
        have HD := hid hD
        clear hD h14 HF
        go_wp2_with fail
        refine HD.out.mono ?_
        rintro e w15 ⟨rfl, h15⟩
        have hN := law_nodes h15
        have hlen : (rootT.length : Int) = 1 := rfl
        rw [hlen] at hN
        have HN2 := hid hN
        have hH := law_hold h15 1 (fun p hp => by cases hp)
        have hfe : fileE rootT 1 = 7 := rfl
        rw [hfe] at hH
        have HH2 := hid hH
        clear hN hlen hH hfe h15 HD
        go_wp2_with fail
        refine HN2.out.mono ?_
        rintro e w16 ⟨rfl, hw⟩; subst w16
        go_wp2_with fail
        refine HH2.out.mono ?_
        rintro e w17 ⟨rfl, h17⟩
        have HT17 := hid h17.turn
        clear h17
        go_wp2_with fail
        go_returns
        exact ⟨rfl, HT0.out.trans HT17.out⟩
end Go.Proofs.YtiohpmcedfbcgabDoor
