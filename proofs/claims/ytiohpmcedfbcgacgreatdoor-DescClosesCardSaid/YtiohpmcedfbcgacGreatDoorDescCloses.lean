/- DescCloses walked: true, and nothing that was there turns. Conditions: errors.errorType holds what is laid; the arguments lie in memory. -/
import Derived.Test.YtiohpmcedfbcgacGreatDoorDescFd
import Derived.Test.YtiohpmcedfbcgacGreatDoorDescFlat
import Derived.Deep.RegionHeld3
namespace Go.Proofs.YtiohpmcedfbcgacGreatDoor
open Go.RowKit
set_option linter.unusedVariables false
/-- Calls in memory: four numbers and a text each. -/
abbrev Fdx := Int × Int × Int × Int × ByteArray
def FdsAt (W : World) (b off : Nat) (xs : List Fdx) : Prop := ∀ (j : Nat) (x : Fdx), xs[j]? = some x →
  W.cell? ⟨b, off + j * 5, none⟩ = some (.int .i64 x.1) ∧ W.cell? ⟨b, off + j * 5 + 1, none⟩ = some (.int .i64 x.2.1) ∧ W.cell? ⟨b, off + j * 5 + 2, none⟩ = some (.int .i64 x.2.2.1) ∧ W.cell? ⟨b, off + j * 5 + 3, none⟩ = some (.int .i64 x.2.2.2.1) ∧ W.cell? ⟨b, off + j * 5 + 4, none⟩ = some (.string x.2.2.2.2)
theorem FdsAt.turned {W w : World} {b off : Nat} {xs : List Fdx} {S : Nat → Prop} (h : FdsAt W b off xs) (t : Turn S W w) (hb : b < W.heap.size) (hn : ¬ S b) : FdsAt w b off xs := fun j x hx => by
  obtain ⟨h0, h1, h2, h3, h4⟩ := h j x hx
  exact ⟨(t.cell (a := ⟨b, _, none⟩) hb hn).trans h0, (t.cell (a := ⟨b, _, none⟩) hb hn).trans h1, (t.cell (a := ⟨b, _, none⟩) hb hn).trans h2, (t.cell (a := ⟨b, _, none⟩) hb hn).trans h3, (t.cell (a := ⟨b, _, none⟩) hb hn).trans h4⟩
theorem infoTab : (Tryz.prog.info? 74).map (fun i => (i.zero, i.size, i.bytes)) = some (some (.pointer none), 1, 8) := by kernel_rfl
theorem joint0 (t : Nat) : Joint DS0 [(t, noTab)] := by
  refine ⟨fun k hk => ?_, fun i x hx j hj => ?_⟩
  · rw [cnt_zero [(t, noTab)] (fun x hx j hj => by rw [List.mem_singleton] at hx; rw [hx]; rfl) k hk]; rfl
  · cases i with
    | zero => cases hx; exact ⟨Int.le_refl _, by show (0 : Int) ≤ 40; decide⟩
    | succ i => cases hx
theorem terr_or (z : Int) : (z = 0 ∧ TErr z = .nilIface) ∨ (z ≠ 0 ∧ TErr z = .iface 45 (.int .i64 z)) := by
  by_cases h : z = 0
  · exact .inl ⟨h, if_pos h⟩
  · exact .inr ⟨h, if_neg h⟩
theorem list_root {T : PT} (hok : TOk T) : ∃ p0, mget T 0 = some p0 ∧ p0.isDir = true ∧ listE T ⟨#[47]⟩ = 0 ∧ listT T ⟨#[47]⟩ = sortedNs p0.ds := by
  obtain ⟨p0, h0, hd⟩ := hok.root
  have hf : findT T ⟨#[47]⟩ = (0, 0) := by
    have hn : namesOf (⟨#[47]⟩ : ByteArray) = some [] := by kernel_rfl
    rw [findT_some hn]; rfl
  have hE : listE T ⟨#[47]⟩ = 0 := by
    unfold listE
    rw [hf]
    show (if (0 : Int) ≠ 0 then (0 : Int) else if isDirT T 0 then 0 else 6) = 0
    rw [if_neg (by simp), if_pos (by unfold isDirT; rw [h0]; exact hd)]
  refine ⟨p0, h0, hd, hE, ?_⟩
  unfold listT
  rw [if_pos hE, hf]
  show sortedNs ((mget T 0).elim [] (·.ds)) = _
  rw [h0]; rfl
theorem nodup_map {α β : Type} {f : α → β} (hf : ∀ a b, f a = f b → a = b) : ∀ {l : List α}, l.Nodup → (l.map f).Nodup
  | [], _ => List.nodup_nil
  | a :: l, h => by
    rw [List.map_cons, List.nodup_cons]
    refine ⟨fun hm => ?_, nodup_map hf (List.nodup_cons.1 h).2⟩
    obtain ⟨b, hb, e⟩ := List.mem_map.1 hm
    exact (List.nodup_cons.1 h).1 (hf b a e ▸ hb)
theorem sortedNs_nodup {ds : List (ByteArray × Int)} (h : MNodup ds) : (sortedNs ds).Nodup := by
  unfold sortedNs
  have h1 : (ds.map (·.1.data.toList)).Nodup := by
    have e : ds.map (·.1.data.toList) = (ds.map Prod.fst).map (fun b : ByteArray => b.data.toList) := by rw [List.map_map]; rfl
    rw [e]
    exact nodup_map (fun a b hab => ba_ext hab) h
  have h2 : ((ds.map (·.1.data.toList)).mergeSort fun x y => decide (x ≤ y)).Nodup := (List.mergeSort_perm _ _).nodup_iff.2 h1
  exact nodup_map (fun a b hab => by
    have h3 := congrArg (fun x : ByteArray => x.data.toList) hab
    simpa using h3) h2
theorem sortedNs_some {ds : List (ByteArray × Int)} (h : MNodup ds) (s : ByteArray) : (mget ds s).isSome = true ↔ s ∈ sortedNs ds := by
  rw [sortedNs_mem]
  constructor
  · intro hs
    obtain ⟨m, hm⟩ := Option.isSome_iff_exists.1 hs
    exact ⟨(s, m), mem_of_mget hm, rfl⟩
  · rintro ⟨e, he, rfl⟩
    rw [mget_mem h he]; rfl
theorem ds_none {ds : List (ByteArray × Int)} (h : MNodup ds) (hs : ∀ s, ¬ (mget ds s).isSome = true) : ds = [] := by
  cases ds with
  | nil => rfl
  | cons e ds =>
    have : mget (e :: ds) e.1 = some e.2 := mget_mem h List.mem_cons_self
    exact absurd (by rw [this]; rfl) (hs e.1)
theorem drop_next {l : List ByteArray} {m : Nat} {s : ByteArray} (hnd : l.Nodup) (hm : l[m]? = some s) (x : ByteArray) : x ∈ l.drop (m + 1) ↔ x ∈ l.drop m ∧ x ≠ s := by
  have hlt : m < l.length := (List.getElem?_eq_some_iff.1 hm).1
  have hd : l.drop m = s :: l.drop (m + 1) := by
    rw [List.drop_eq_getElem_cons hlt]
    congr 1
    exact (List.getElem?_eq_some_iff.1 hm).2
  have hnd2 : (l.drop m).Nodup := hnd.sublist (List.drop_sublist _ _)
  rw [hd] at hnd2 ⊢
  have hns := (List.nodup_cons.1 hnd2).1
  constructor
  · intro h
    exact ⟨List.mem_cons_of_mem _ h, fun e => hns (e ▸ h)⟩
  · rintro ⟨h, hne⟩
    rcases List.mem_cons.1 h with h | h
    · exact absurd h hne
    · exact h
theorem usedT_take {ts : List (Nat × PTab)} {m : Nat} {t : Nat × PTab} (h : ts[m]? = some t) : usedT (ts.take (m + 1)) = usedT (ts.take m) + usedL t.2 := by
  have happ : ∀ a b : List (Nat × PTab), usedT (a ++ b) = usedT a + usedT b := fun a b => by
    induction a with
    | nil => exact (Nat.zero_add _).symm
    | cons u a ih =>
      show usedL u.2 + usedT (a ++ b) = usedL u.2 + usedT a + usedT b
      rw [ih]; omega
  rw [List.take_add_one, h, happ]
  rfl
theorem usedT_le : ∀ ts : List (Nat × PTab), usedT ts ≤ 8 * ts.length
  | [] => Nat.le_refl _
  | t :: ts => by
    have h1 := usedL_le t.2
    have h2 := usedT_le ts
    show usedL t.2 + usedT ts ≤ 8 * (ts.length + 1)
    omega
set_option maxRecDepth 100000 in
theorem descCloses_many (a : Option Addr) (n cap : Nat) (W : World) (hn : n ≤ maxLen) (hb : 40 < n) :
    Calls Tryz.prog 7 #[.slice a n cap] W fun e w' => e = .returned (.bool true) ∧ Turn (fun _ => False) W w' := by
  have hm : maxLen = 9223372036854775807 := rfl
  have h1' : (40 : Int) < n := by omega
  go_enter Tryz.func7, Tryz.ntmps7
  go_wp2_with fail
  go_ret
  exact ⟨rfl, Turn.refl _ _⟩
set_option maxHeartbeats 8000000 in
set_option maxRecDepth 100000 in
theorem descCloses_few (a : Option Addr) (xs : List Fdx) (cap : Nat) (W : World) (hL : Laid W) (hl : xs.length ≤ 40) (hc : xs ≠ [] → ∃ b off, a = some ⟨b, off, none⟩ ∧ FdsAt W b off xs ∧ b < W.heap.size) :
    Calls Tryz.prog 7 #[.slice a xs.length cap] W fun e w' => e = .returned (.bool true) ∧ Turn (fun _ => False) W w' := by
  have h1 : ¬ (40 : Int) < xs.length := by omega
  have HC := hid hc
  have HL := hid hL
  clear hc hL
  go_enter Tryz.func7, Tryz.ntmps7
  go_wp2_with fail
  refine (opened_is W HL.out).mono ?_
  rintro e w0 ⟨rfl, t0⟩
  have HT0 := hid t0
  have HL0 := hid (HL.out.turned0 t0)
  clear t0
  go_wp2_with fail
  refine (law_new w0).mono ?_
  rintro e w1 ⟨tb, rfl, h1⟩
  have H1 := hid h1
  clear h1
  go_wp2_with fail
  refine (law_dnew H1.out).mono ?_
  rintro e w2 ⟨fb, rfl, h2⟩
  have ht := h2.table
  have HS : Hid (CState w0 ((w2.alloc (tabObj noTab)).alloc (.cells #[.pointer (some ⟨w2.heap.size, 0, none⟩)] 74)) fb tb (.slice (some ⟨(w2.alloc (tabObj noTab)).heap.size, 0, none⟩) 1 1) ([(w2.heap.size, noTab)].map tptr) DS0 [(w2.heap.size, noTab)]) :=
    hid (CState.made (W := w0) (⟨ht, ds0_ok, joint0 _, flat_root, by show 1 ≤ 1000; decide⟩ : DAll (base w0) _ fb tb DS0 [(w2.heap.size, noTab)]) ht.turn0 _)
  rw [World.size_alloc] at HS
  unfold tabObj noTab at HS
  clear h2 ht
  go_wp2_with fail
  go_loopg [6, 7] (xs.length) (fun gl v i wr => ∃ (j : Nat) (S : PS) (ts : List (Nat × PTab)), j + gl = xs.length ∧ i = .int .i64 j ∧ Hid (CState w0 wr fb tb v (ts.map tptr) S ts) ∧ Hid (1 ≤ ts.length ∧ ts.length ≤ 5))
  case atStart => exact ⟨0, _, _, by omega, rfl, HS, hid ⟨by simp, by simp⟩⟩
  case round =>
    clear HS H1
    obtain ⟨j, S, ts, hj, rfl, hS, hN⟩ := hrel
    obtain ⟨g, gcap, rfl⟩ := hS.out.slice (by have := hN.out.1; intro e; rw [List.map_eq_nil_iff] at e; rw [e] at this; simp at this)
    rw [List.length_map] at hS ⊢
    obtain ⟨LN, hLN⟩ : ∃ LN, ts.length = LN := ⟨_, rfl⟩
    have hl1 := hN.out.1
    have hl5 := hN.out.2
    rw [hLN] at hl1 hl5 hS ⊢
    have HLN := hid hLN
    clear hLN
    by_cases hlt : j < xs.length
    · have hlt' : (j : Int) < xs.length := by omega
      obtain ⟨⟨x0, x1, x2, x3, x4⟩, hx⟩ : ∃ x, xs[j]? = some x := ⟨_, List.getElem?_eq_getElem hlt⟩
      obtain ⟨b, off, rfl, hO, hb⟩ := HC.out (by rintro rfl; simp at hlt)
      have hO0 := hO.turned HT0.out hb id
      have hb0 : b < w0.heap.size := Nat.lt_of_lt_of_le hb HT0.out.size
      obtain ⟨d0, d1, d2, d3, d4⟩ := hO0.turned hS.out.turn hb0 id j _ hx
      simp only at d0 d1 d2 d3 d4
      have HO := hid hO0
      have HX := hid hx
      clear hO hO0 hx hb
      by_cases hbig : 100 < x4.size
      · have hbig' : (100 : Int) < x4.size := by omega
        clear hbig
        go_wp2_with fail
        go_ret
        exact ⟨rfl, HT0.out.trans hS.out.turn⟩
      · have hbig' : ¬ (100 : Int) < x4.size := by omega
        go_wp2_with fail
        refine (pick_some x1 LN _ (by omega) (by omega)).mono ?_
        rintro e w5 ⟨k0, hk0, hk1, rfl, rfl⟩
        obtain ⟨k, rfl⟩ : ∃ k : Nat, k0 = k := ⟨k0.toNat, by omega⟩
        obtain ⟨⟨tab, L⟩, htk⟩ : ∃ t, ts[k]? = some t := ⟨_, List.getElem?_eq_getElem (by have := HLN.out; omega)⟩
        have HTk := hid htk
        have hcell : wr.cell? ⟨g, k, none⟩ = some (.pointer (some ⟨tab, 0, none⟩)) := (show CState w0 wr fb tb (.slice (some ⟨g, 0, none⟩) (ts.map tptr).length gcap) (ts.map tptr) S ts by rw [List.length_map, HLN.out]; exact hS.out).cell k _ (by rw [List.getElem?_map, htk]; rfl)
        clear htk hbig
        by_cases h9 : x0 = 9
        · have h9b : (x0 == 9) = true := by simpa using h9
          clear h9
          --<<
          by_cases h5 : LN < 5
          · have h5' : (LN : Int) < 5 := by omega
            go_wp2_with fail
            refine (cs_open hS.out).mono ?_
            rintro e w6 ⟨rfl, rfl⟩
            go_wp2_with fail
            refine (cs_fork hS.out (by have := HLN.out; omega) HTk.out).mono ?_
            rintro e w7 ⟨ub, S', rfl, h7, hE7⟩
            have H7 := hid h7
            have ht7 := HTk.out
            have hi7 : (ts ++ [(ub, L)])[k]? = some (tab, L) := by rw [List.getElem?_append_left (by have := HLN.out; omega)]; exact ht7
            have hi7b : (ts ++ [(ub, L)])[LN]? = some (ub, L) := by rw [List.getElem?_append_right (by have := HLN.out; omega), HLN.out, Nat.sub_self]; rfl
            have HUa := hid (fun w' (t : Turn (fun _ => False) w7 w') => cs_used (H7.out.still t) hi7b)
            have HUb := hid (fun w' (t : Turn (fun _ => False) w7 w') => cs_used (H7.out.still t) hi7)
            have HOp := hid (fun w' (t : Turn (fun _ => False) w7 w') => cs_open (H7.out.still t))
            rw [hE7] at HOp
            obtain ⟨U, hU⟩ : ∃ U, usedL L = U := ⟨_, rfl⟩
            obtain ⟨O, hO⟩ : ∃ O, S.es.length = O := ⟨_, rfl⟩
            rw [hU] at HUa HUb
            rw [hO] at HOp ⊢
            have hneU : ((U : Int) != (U : Int)) = false := by simp
            have hneO : ((O : Int) != (O : Int)) = false := by simp
            have HTd : Hid (Turn (fun _ => False) w7 w7.drew) := hid (Turn.refl _ _).drew
            have hcell7 : w7.cell? ⟨g, k, none⟩ = some (.pointer (some ⟨tab, 0, none⟩)) := (show CState w0 w7 fb tb (.slice (some ⟨g, 0, none⟩) (ts.map tptr).length gcap) (ts.map tptr) S' (ts ++ [(ub, L)]) by rw [List.length_map, HLN.out]; exact H7.out).cell k _ (by rw [List.getElem?_map, ht7]; rfl)
            clear h7 hE7 ht7 hi7 hi7b hU hO hcell d0 d1 d2 d3 d4 hS HC
            go_upto_region 20 with fail
            go_cut [94] (fun v wx => v = .bool false ∧ Hid (Turn (fun _ => False) w7 wx))
            case first =>
              as_aux_lemma =>
                go_region_held3 (fun w' => w'.cell? ⟨g, k, none⟩ = some (.pointer (some ⟨tab, 0, none⟩)))
                  (first | exact k9 | exact k8 | exact hcell7 | go_keep)
                  (first
                    | (go_at_call 44; with_reducible refine (HUa.out _ HT8.out).mono ?_; rintro e w9 ⟨rfl, t⟩; have HT9 := hid (HT8.out.trans t); have k9 := (t.cell (a := ⟨g, k, none⟩) (lt_of_cell k8) id).trans k8; clear t)
                    | (go_at_call 44; with_reducible refine (HUb.out _ HT8.out).mono ?_; rintro e w9 ⟨rfl, t⟩; have HT9 := hid (HT8.out.trans t); have k9 := (t.cell (a := ⟨g, k, none⟩) (lt_of_cell k8) id).trans k8; clear t)
                    | (go_at_call 44; with_reducible refine (HUa.out _ HTd.out).mono ?_; rintro e w8 ⟨rfl, t⟩; have HT8 := hid (HTd.out.trans t); have k8 := ((HTd.out.trans t).cell (a := ⟨g, k, none⟩) (lt_of_cell hcell7) id).trans hcell7; clear t)
                    | (go_at_call 44; with_reducible refine (HUb.out _ HTd.out).mono ?_; rintro e w8 ⟨rfl, t⟩; have HT8 := hid (HTd.out.trans t); have k8 := ((HTd.out.trans t).cell (a := ⟨g, k, none⟩) (lt_of_cell hcell7) id).trans hcell7; clear t)
                    | (go_at_call 42; with_reducible refine (HOp.out _ HT9.out).mono ?_; rintro e w10 ⟨rfl, rfl⟩))
                all_goals go_wp2_with fail
                all_goals go_meet
                all_goals exact ⟨rfl, HT9⟩
            case rest =>
              obtain ⟨rfl, ht⟩ := hcut
              have h8 := H7.out.still ht.out
              have ta : Turn (fun _ => False) wc (wc.alloc (.cells #[.pointer (some ⟨ub, 0, none⟩)] 74)) := (Turn.refl _ _).alloc _
              have H9 := hid (h8.still ta)
              have HRow := hid H9.out.row
              have HCel : Hid ((wc.alloc (.cells #[.pointer (some ⟨ub, 0, none⟩)] 74)).cell? ⟨wc.heap.size, 0, none⟩ = some (.pointer (some ⟨ub, 0, none⟩))) := hid (by simp)
              have hll : (ts.map tptr).length ≤ 1000000 := by rw [List.length_map, HLN.out]; omega
              clear ta h8 hcell7 HUa HUb HOp
              go_wp2_with (at_builtin; refine wpList_append_val rfl _ _ rfl Tryz.underlying80 infoTab rfl (by decide) (.slice (some ⟨g, 0, none⟩) LN gcap) (ts.map tptr) rfl HRow.out wc.heap.size 1 (.pointer (some ⟨ub, 0, none⟩)) rfl HCel.out rfl hll ?_; intro g3 z3 w11 hr11 t11 ho11; have HR11 := hid hr11; have HT11 := hid t11; have HO11 := hid ho11; clear hr11 t11 ho11)
              go_roundg (gk - 1)
              case measure => omega
              case rel =>
                have hfin := H9.out.grown HR11.out HT11.out HO11.out
                refine ⟨j + 1, S', ts ++ [(ub, L)], by omega, by go_num, hid ?_, hid (by rw [List.length_append, HLN.out]; simp only [List.length_singleton]; omega)⟩
                rw [List.length_map] at hfin
                rw [List.map_append]
                exact hfin
          · have h5' : ¬ (LN : Int) < 5 := by omega
            go_wp2_with fail
            go_roundg (gk - 1)
            case measure => omega
            case rel => exact ⟨j + 1, S, ts, by omega, by go_num, hS, hN⟩
          -->>
        · have h9b : (x0 == 9) = false := by simpa using h9
          go_wp2_with fail
          refine (cs_used hS.out HTk.out).mono ?_
          rintro e w6 ⟨rfl, t6⟩
          have hS6 := hid (hS.out.still t6)
          clear t6 hS
          go_wp2_with fail
          refine (cs_open hS6.out).mono ?_
          rintro e w7 ⟨rfl, rfl⟩
          obtain ⟨U, hU⟩ : ∃ U, usedL L = U := ⟨_, rfl⟩
          obtain ⟨O, hO⟩ : ∃ O, S.es.length = O := ⟨_, rfl⟩
          rw [hU, hO]
          have HU := hid hU
          have HOl := hid hO
          clear hU hO d0 d1 d2 d3 d4 hcell
          obtain ⟨d0, d1, d2, d3, d4⟩ := HO.out.turned hS6.out.turn hb0 id j _ HX.out
          simp only at d0 d1 d2 d3 d4
          have hcell : w7.cell? ⟨g, k, none⟩ = some (.pointer (some ⟨tab, 0, none⟩)) := (show CState w0 w7 fb tb (.slice (some ⟨g, 0, none⟩) (ts.map tptr).length gcap) (ts.map tptr) S ts by rw [List.length_map, HLN.out]; exact hS6.out).cell k _ (by rw [List.getElem?_map, HTk.out]; rfl)
          go_upto_region 24 with fail
          go_cut [13] (fun v wx => ∃ z S' L', v = TErr z ∧ Hid (CState w0 wx fb tb (.slice (some ⟨g, 0, none⟩) LN gcap) (ts.map tptr) S' (ts.set k (tab, L'))) ∧ Hid (z ≠ 0 → usedL L' = U ∧ S'.es.length = O))
          case first =>
            as_aux_lemma =>
              have HFd := hid (cs_fd (hS6.out.still (Turn.refl _ _).drew) HTk.out HL0.out x0 x1 x2 x3 x4 (by omega))
              go_region_held3 (fun w' => w'.cell? ⟨g, k, none⟩ = some (.pointer (some ⟨tab, 0, none⟩)) ∧ w'.cell? ⟨b, off + j * 5, none⟩ = some (.int .i64 x0) ∧ w'.cell? ⟨b, off + j * 5 + 1, none⟩ = some (.int .i64 x1) ∧ w'.cell? ⟨b, off + j * 5 + 2, none⟩ = some (.int .i64 x2) ∧ w'.cell? ⟨b, off + j * 5 + 3, none⟩ = some (.int .i64 x3) ∧ w'.cell? ⟨b, off + j * 5 + 4, none⟩ = some (.string x4))
                (first | exact ⟨q8, q0, q1, q2, q3, q4⟩ | exact ⟨hcell, d0, d1, d2, d3, d4⟩ | go_keep)
                (first | (go_at_call 45; refine HFd.out.mono ?_; rintro e w8 ⟨z, S', L', rfl, h8, hz8⟩; have H8 := hid h8; have HZ8 := hid hz8; clear h8 hz8; have q8 := (show CState w0 w8 fb tb (.slice (some ⟨g, 0, none⟩) (ts.map tptr).length gcap) (ts.map tptr) S' (ts.set k (tab, L')) by rw [List.length_map, HLN.out]; exact H8.out).cell k (.pointer (some ⟨tab, 0, none⟩)) (by rw [List.getElem?_map, HTk.out]; rfl); obtain ⟨q0, q1, q2, q3, q4⟩ := HO.out.turned H8.out.turn hb0 id j _ HX.out; simp only at q0 q1 q2 q3 q4))
              all_goals go_wp2_with fail
              all_goals go_meet
              all_goals exact ⟨z, S', L', rfl, H8, hid (fun hz => by have := HZ8.out hz; have := HU.out; have := HOl.out; omega)⟩
          case rest =>
            obtain ⟨z, S', L', rfl, h8, hz8⟩ := hcut
            clear hS6 d0 d1 d2 d3 d4 hcell
            have hi8 : (ts.set k (tab, L'))[k]? = some (tab, L') := get_set HTk.out
            have HI8 := hid hi8
            obtain ⟨ts', hts⟩ : ∃ ts', ts.set k (tab, L') = ts' := ⟨_, rfl⟩
            have hmap : ts.map tptr = ts'.map tptr := by rw [← hts, map_set_tptr HTk.out]
            have hlen : ts'.length = LN := by rw [← hts, List.length_set]; exact HLN.out
            rw [hmap, hts] at h8
            rw [hts] at HI8
            have HLen := hid hlen
            clear hi8 hts hmap hlen
            have hUL := usedL_le L'
            have hcell : wc.cell? ⟨g, k, none⟩ = some (.pointer (some ⟨tab, 0, none⟩)) := (show CState w0 wc fb tb (.slice (some ⟨g, 0, none⟩) (ts'.map tptr).length gcap) (ts'.map tptr) S' ts' by rw [List.length_map, HLen.out]; exact h8.out).cell k _ (by rw [List.getElem?_map, HI8.out]; rfl)
            have hneU : ((U : Int) != (U : Int)) = false := by simp
            have hneO : ((O : Int) != (O : Int)) = false := by simp
            go_upto_region 25 with fail
            go_cut [13, 132] (fun er v wx => v = .bool false ∧ Hid (Turn (fun _ => False) wc wx))
            case first =>
              as_aux_lemma =>
                rcases terr_or z with ⟨_, ez⟩ | ⟨hz0, ez⟩
                · rw [ez]
                  clear ez
                  go_wp2_with fail
                  go_meet
                  exact ⟨rfl, hid (Turn.refl _ _)⟩
                · rw [ez]
                  have HZ := hid (hz8.out hz0)
                  clear ez hz0
                  go_wp2_with fail
                  refine (cs_used h8.out HI8.out).mono ?_
                  rintro e w9 ⟨rfl, t9⟩
                  rw [HZ.out.1]
                  have HT9 := hid t9
                  clear t9
                  go_wp2_with fail
                  refine (cs_open (h8.out.still HT9.out)).mono ?_
                  rintro e w10 ⟨rfl, rfl⟩
                  rw [HZ.out.2]
                  go_wp2_with fail
                  go_meet
                  exact ⟨rfl, HT9⟩
            case rest =>
              obtain ⟨rfl, ht9⟩ := hcut
              have H9 := hid (h8.out.still ht9.out)
              clear h8 hcell ht9 hz8
              rename_i wd
              go_wp2_with fail
              go_loopg [14, 15] LN (fun gl sv iv wx => ∃ m : Nat, m + gl = LN ∧ iv = .int .i64 m ∧ sv = .int .i64 (usedT (ts'.take m)) ∧ Hid (CState w0 wx fb tb (.slice (some ⟨g, 0, none⟩) LN gcap) (ts'.map tptr) S' ts'))
              case atStart => exact ⟨0, by omega, rfl, rfl, H9⟩
              case round =>
                clear H9
                obtain ⟨m, hm, rfl, rfl, hC⟩ := hrel
                by_cases hml : m < LN
                · have hml' : (m : Int) < LN := by omega
                  obtain ⟨⟨tab2, L2⟩, ht2⟩ : ∃ t, ts'[m]? = some t := ⟨_, List.getElem?_eq_getElem (by rw [HLen.out]; exact hml)⟩
                  have hcell := (show CState w0 wr fb tb (.slice (some ⟨g, 0, none⟩) (ts'.map tptr).length gcap) (ts'.map tptr) S' ts' by rw [List.length_map, HLen.out]; exact hC.out).cell m (.pointer (some ⟨tab2, 0, none⟩)) (by rw [List.getElem?_map, ht2]; rfl)
                  have hsum := usedT_take ht2
                  have hsle := usedT_le (ts'.take m)
                  have hul := usedL_le L2
                  have hlt : (ts'.take m).length ≤ 5 := by rw [List.length_take]; omega
                  obtain ⟨SS, hSS⟩ : ∃ SS, usedT (ts'.take m) = SS := ⟨_, rfl⟩
                  obtain ⟨U2, hU2⟩ : ∃ U2, usedL L2 = U2 := ⟨_, rfl⟩
                  rw [hSS] at hsum hsle ⊢
                  simp only [hU2] at hsum hul
                  have HSm := hid hsum
                  have HU2 := hid hU2
                  have HT2 := hid ht2
                  have hw8 : IntKind.i64.wrap ((SS : Int) + U2) = SS + U2 := IntWalk.i64_in _ (by omega)
                  clear hsum hSS hU2 ht2
                  go_wp2_with fail
                  refine (cs_used hC.out HT2.out).mono ?_
                  rintro e w12 ⟨rfl, t12⟩
                  rw [HU2.out]
                  have HC12 := hid (hC.out.still t12)
                  clear t12
                  go_wp2_with fail
                  go_roundg (gk - 1)
                  case measure => omega
                  case rel => exact ⟨m + 1, by omega, by go_num, by rw [HSm.out]; go_num, HC12⟩
                · have hml' : ¬ (m : Int) < LN := by omega
                  obtain rfl : m = LN := by omega
                  have htk : ts'.take m = ts' := List.take_of_length_le (by rw [HLen.out]; omega)
                  rw [htk]
                  have hou := open_used hC.out.joint hC.out.ok
                  have ho40 := hC.out.ok.size
                  obtain ⟨SS, hSS⟩ : ∃ SS, usedT ts' = SS := ⟨_, rfl⟩
                  obtain ⟨OO, hOO⟩ : ∃ OO, S'.es.length = OO := ⟨_, rfl⟩
                  rw [hSS, hOO] at hou
                  rw [hOO] at ho40
                  rw [hSS]
                  have HOO := hid hOO
                  have n1 : ¬ (SS : Int) < OO := by omega
                  have n2 : ¬ (40 : Int) < OO := by omega
                  have n3 : ¬ (8 : Int) < usedL L' := by omega
                  have hcell := (show CState w0 wr fb tb (.slice (some ⟨g, 0, none⟩) (ts'.map tptr).length gcap) (ts'.map tptr) S' ts' by rw [List.length_map, HLen.out]; exact hC.out).cell k (.pointer (some ⟨tab, 0, none⟩)) (by rw [List.getElem?_map, HI8.out]; rfl)
                  clear hSS hOO htk
                  go_wp2_with fail
                  refine (cs_open hC.out).mono ?_
                  rintro e w13 ⟨rfl, rfl⟩
                  rw [HOO.out]
                  go_wp2_with fail
                  refine (cs_open hC.out).mono ?_
                  rintro e w14 ⟨rfl, rfl⟩
                  rw [HOO.out]
                  go_wp2_with fail
                  refine (cs_used hC.out HI8.out).mono ?_
                  rintro e w15 ⟨rfl, t15⟩
                  have HC15 := hid (hC.out.still t15)
                  clear t15
                  go_wp2_with fail
                  go_roundg (xs.length - (j + 1))
                  case measure => omega
                  case rel => exact ⟨j + 1, S', ts', by omega, by go_num, HC15, hid (by have := HLen.out; omega)⟩
    · have hlt' : ¬ (j : Int) < xs.length := by omega
      obtain ⟨p0, h0, hd0, hLE, hLT⟩ := list_root hS.out.tok
      have hok := hS.out.tok
      have hnd := sortedNs_nodup (hok.dnd 0 p0 h0)
      have hmem := sortedNs_some (hok.dnd 0 p0 h0)
      obtain ⟨l, hl⟩ : ∃ l, sortedNs p0.ds = l := ⟨_, rfl⟩
      rw [hl] at hnd hmem hLT
      have HLi := hid (cs_list hS.out ⟨#[47]⟩ (by decide))
      rw [hLE, hLT] at HLi
      have HRt : Hid (mget S.T 0 = some p0 ∧ p0.isDir = true) := hid ⟨h0, hd0⟩
      have HNd := hid hnd
      have HMem : Hid (∀ s, (mget p0.ds s).isSome = true ↔ s ∈ l.drop 0) := hid (by rw [List.drop_zero]; exact hmem)
      have hll : l.length ≤ 60 := by rw [← hl, sortedNs_length]; exact ds_few hok hS.out.flat h0
      clear h0 hd0 hLE hLT hok hnd hmem hl hS
      go_wp2_with fail
      refine HLi.out.mono ?_
      rintro e w5 ⟨u, rfl, hE⟩
      rw [show TErr 0 = Value.nilIface from if_pos rfl]
      have HE := hid hE
      clear hE HLi
      obtain ⟨a2, cap2, rfl⟩ : ∃ a2 cap2, u = .slice a2 l.length cap2 := by
        have h := HE.out.row.2.slice
        rw [List.length_map] at h
        exact h
      go_wp2_with fail
      go_loopg [17] l.length (fun gl iv wx => ∃ (m : Nat) (Si : PS) (p1 : PN), m + gl = l.length ∧ iv = .int .i64 m ∧ Hid (CEnd w0 wx fb tb (.slice (some ⟨g, 0, none⟩) LN gcap) (ts.map tptr) Si ts (.slice a2 l.length cap2) l) ∧ Hid (mget Si.T 0 = some p1 ∧ p1.isDir = true) ∧ Hid (∀ s, (mget p1.ds s).isSome = true ↔ s ∈ l.drop m))
      case atStart => exact ⟨0, S, p0, by omega, rfl, HE, HRt, HMem⟩
      case round =>
        clear HE HRt HMem
        obtain ⟨m, Si, p1, hm, rfl, hE, hRt, hMem⟩ := hrel
        by_cases hml : m < l.length
        · have hml' : (m : Int) < l.length := by omega
          obtain ⟨s, hs⟩ : ∃ s, l[m]? = some s := ⟨_, List.getElem?_eq_getElem hml⟩
          obtain ⟨g2, rfl⟩ : ∃ g2, a2 = some ⟨g2, 0, none⟩ := by
            rcases hE.out.row.2.shape with ⟨_, h1⟩ | ⟨g2, c2, h1, _⟩
            · rw [List.map_eq_nil_iff] at h1; rw [h1] at hml; exact absurd hml (by simp)
            · injection h1 with h1 _ _
              exact ⟨g2, h1⟩
          have hcs : wr.cell? ⟨g2, m, none⟩ = some (.string s) := (show RowV wr 9 (.slice (some ⟨g2, 0, none⟩) (l.map encS).length cap2) (l.map encS) by rw [List.length_map]; exact hE.out.row.2).cell m (.string s) (by rw [List.getElem?_map, hs]; rfl)
          obtain ⟨mm, hmm⟩ : ∃ mm, mget p1.ds s = some mm := Option.isSome_iff_exists.1 ((hMem.out s).2 (by
            rw [List.drop_eq_getElem_cons hml]
            have := (List.getElem?_eq_some_iff.1 hs).2
            rw [this]; exact List.mem_cons_self))
          have HUn := hid (ce_unlink hE.out hRt.out.1 hRt.out.2 hmm)
          have hss : s.size ≤ 12 := by
            obtain ⟨B, hDA⟩ := hE.out.dall
            exact (okName_true (hDA.law.tok.nms 0 p1 hRt.out.1 (s, mm) (mem_of_mget hmm))).2.1
          have HSs := hid hs
          clear hs hmm
          go_wp2_with fail
          refine HUn.out.mono ?_
          rintro e w6 ⟨rfl, S6, p6, hE6, hp6, hd6, hds6⟩
          have HE6 := hid hE6
          have HR6 : Hid (mget S6.T 0 = some p6 ∧ p6.isDir = true) := hid ⟨hp6, hd6⟩
          have HM6 : Hid (∀ x, (mget p6.ds x).isSome = true ↔ x ∈ l.drop (m + 1)) := hid (fun x => by
            rw [hds6, mget_mdel, drop_next HNd.out HSs.out x]
            by_cases e : x = s
            · rw [if_pos e]; simp [e]
            · rw [if_neg e, hMem.out x]; simp [e])
          clear hE6 hp6 hd6 hds6
          go_wp2_with fail
          go_roundg (gk - 1)
          case measure => omega
          case rel => exact ⟨m + 1, S6, p6, by omega, by go_num, HE6, HR6, HM6⟩
        · have hml' : ¬ (m : Int) < l.length := by omega
          obtain rfl : m = l.length := by omega
          have hds : p1.ds = [] := by
            obtain ⟨B, hDA⟩ := hE.out.dall
            exact ds_none (hDA.law.tok.dnd 0 p1 hRt.out.1) (fun s hs => by
              have h5 := (hMem.out s).1 hs
              rw [List.drop_length] at h5
              cases h5)
          have HDs := hid hds
          clear hds hMem
          go_wp2_with fail
          go_loopg [18] LN (fun gl iv wx => ∃ (m : Nat) (Sj : PS) (ts' : List (Nat × PTab)), m + gl = LN ∧ iv = .int .i64 m ∧ Hid (ts'.length = LN) ∧ Hid (ts'.map tptr = ts.map tptr) ∧ Hid (CEnd w0 wx fb tb (.slice (some ⟨g, 0, none⟩) LN gcap) (ts.map tptr) Sj ts' (.slice a2 l.length cap2) l) ∧ Hid (mget Sj.T 0 = some p1 ∧ p1.isDir = true) ∧ Hid (∀ (q : Nat) (t : Nat × PTab), ts'[q]? = some t → q < m → ∀ j, j < 8 → (t.2 j).1 = 0))
          case atStart => exact ⟨0, Si, ts, by omega, rfl, HLN, hid rfl, hE, hRt, hid (fun q t _ h => by omega)⟩
          case round =>
            clear hE hRt
            obtain ⟨m, Sj, ts', hm, rfl, hLen, hMap, hE, hRt, hZ⟩ := hrel
            by_cases hmk : m < LN
            · have hmk' : (m : Int) < LN := by omega
              obtain ⟨⟨tab, L⟩, htm⟩ : ∃ t, ts'[m]? = some t := ⟨_, List.getElem?_eq_getElem (by rw [hLen.out]; exact hmk)⟩
              have hgt : (ts.map tptr)[m]? = some (.pointer (some ⟨tab, 0, none⟩)) := by rw [← hMap.out, List.getElem?_map, htm]; rfl
              have hcell : wr.cell? ⟨g, m, none⟩ = some (.pointer (some ⟨tab, 0, none⟩)) := (show RowV wr 74 (.slice (some ⟨g, 0, none⟩) (ts.map tptr).length gcap) (ts.map tptr) by rw [List.length_map, HLN.out]; exact hE.out.row.1).cell m _ hgt
              have HCl := hid (ce_clear hE.out htm hRt.out.1 hRt.out.2)
              have HTm := hid htm
              have HGt := hid hgt
              clear htm hgt
              go_wp2_with fail
              refine HCl.out.mono ?_
              rintro e w6 ⟨rfl, S6, L6, hE6, hp6, hz6⟩
              have HE6 := hid hE6
              have hi6 : (ts'.set m (tab, L6))[m]? = some (tab, L6) := get_set HTm.out
              have HI6 := hid hi6
              have hu6 : usedL L6 = 0 := used_zero 8 0 (fun j _ hj => hz6 j (by omega))
              have HZ6 := hid hz6
              have hcell6 : w6.cell? ⟨g, m, none⟩ = some (.pointer (some ⟨tab, 0, none⟩)) := (show RowV w6 74 (.slice (some ⟨g, 0, none⟩) (ts.map tptr).length gcap) (ts.map tptr) by rw [List.length_map, HLN.out]; exact hE6.row.1).cell m _ HGt.out
              have HU6 := hid (ce_used hE6 hi6)
              rw [hu6] at HU6
              have HR6 : Hid (mget S6.T 0 = some p1 ∧ p1.isDir = true) := hid ⟨hp6, hRt.out.2⟩
              clear hE6 hi6 hu6 hz6 hp6 hcell
              go_wp2_with fail
              refine HU6.out.mono ?_
              rintro e w7 ⟨rfl, t7⟩
              have HE7 := hid (HE6.out.still t7)
              clear t7
              go_wp2_with fail
              go_roundg (gk - 1)
              case measure => omega
              case rel =>
                refine ⟨m + 1, S6, ts'.set m (tab, L6), by omega, by go_num, hid (by rw [List.length_set]; exact hLen.out), hid (by rw [map_set_tptr HTm.out]; exact hMap.out), HE7, HR6, hid (fun q t hq hqm j hj => ?_)⟩
                rcases set_get (x := (tab, L)) HTm.out hq with ⟨_, rfl⟩ | ⟨h5, h6⟩
                · exact HZ6.out j hj
                · exact hZ.out q t h6 (by omega) j hj
            · have hmk' : ¬ (m : Int) < LN := by omega
              obtain rfl : m = LN := by omega
              obtain ⟨B, hDA⟩ := hE.out.dall
              have hes : Sj.es = [] := none_open hDA (fun t ht j hj => by
                obtain ⟨q, hq⟩ := List.mem_iff_getElem?.1 ht
                exact hZ.out q t hq (by have := (List.getElem?_eq_some_iff.1 hq).1; have := hLen.out; omega) j hj)
              have hnod : Sj.T.length = 1 := last_one hDA.law.tok hDA.flat hRt.out.1 HDs.out (fun n p hp => by rw [hDA.ok.held n p hp, hes]; rfl)
              have HOp := hid (ce_open hE.out)
              have HNo := hid (ce_nodes hE.out)
              rw [hes] at HOp
              rw [hnod] at HNo
              clear hDA hes hnod
              go_wp2_with fail
              refine HOp.out.mono ?_
              rintro e w8 ⟨rfl, rfl⟩
              go_wp2_with fail
              refine HNo.out.mono ?_
              rintro e w9 ⟨rfl, rfl⟩
              go_wp2_with fail
              go_ret
              exact ⟨rfl, HT0.out.trans hE.out.turn⟩
end Go.Proofs.YtiohpmcedfbcgacGreatDoor
