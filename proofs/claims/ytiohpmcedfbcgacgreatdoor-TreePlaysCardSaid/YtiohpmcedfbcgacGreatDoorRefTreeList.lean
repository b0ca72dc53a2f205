/- The document's tree: List. Conditions: each theorem's own premises. -/
import Derived.Test.YtiohpmcedfbcgacGreatDoorRefTreeLink
import Derived.Test.YtiohpmcedfbcgacGreatDoorMapRange
import Derived.Test.YtiohpmcedfbcgacGreatDoorTreeList
namespace Go.Proofs.YtiohpmcedfbcgacGreatDoor
open Go.RowKit Go.Maps Go.Sort Go.Shelf Go.WideElems
set_option linter.unusedVariables false
def RListIs (T : PT) (path : ByteArray) (w : World) (e : Ending) (w' : World) : Prop := ∃ a cap, e = .returned (.tuple #[.slice a (listT T path).length cap, .int .i64 (listE T path)]) ∧ StrsIn w' a (listT T path) ∧ Turn (fun _ => False) w w'
section
variable {w w' w1 w2 w3 : World} {rb nm b d : Nat} {T : PT} {B D : Int → Nat} {F : Nat → Prop} {p q : PN} {n : Int} {ds : List (ByteArray × Int)}
set_option maxHeartbeats 2000000 in
set_option maxRecDepth 100000 in
theorem rlist_is (h : RTreeIn w rb nm T D) (hok : TOk T) (path : ByteArray) (hs : path.size < 4294967281) (hb : ∀ n p, mget T n = some p → p.ds.length ≤ 1000000) :
    Calls Tryz.prog 104 #[.pointer (some ⟨rb, 0, none⟩), .string path] w (RListIs T path w) := by
  have H := hid h
  have HOk := hid hok
  have f0 := @rfld0
  have f1 := @rfld1
  have HFd := hid (rfind_is h hok path hs)
  have HB := hid hb
  clear h hok hb
  go_enter Tryz.func104, Tryz.ntmps104
  go_wp2_with fail
  refine HFd.out.mono ?_
  rintro e w1 ⟨rfl, t1⟩
  have HT1 := hid t1
  clear t1
  by_cases hz : (findT T path).1 = 0
  · obtain ⟨q, hq⟩ := findT_there2 HOk.out hz
    obtain ⟨n, hn⟩ : ∃ n, (findT T path).2 = n := ⟨_, rfl⟩
    rw [hn] at hq
    rw [hz, hn]
    have h1 := H.out.turned HT1.out (fun _ _ => id)
    have hh := h1.hdr
    have lk := h1.look hq
    cases hqd : q.isDir with
    | false =>
      rw [hqd] at lk
      simp only [Bool.false_eq_true, if_false] at lk
      have hE : listE T path = 6 := by
        unfold listE
        rw [if_neg (by rw [hz]; simp), hn, if_neg (by unfold isDirT; rw [hq]; show ¬ q.isDir = true; rw [hqd]; decide)]
      have hL : listT T path = [] := if_neg (by rw [hE]; decide)
      have HE := hid hE
      have HLs := hid hL
      clear hqd hE hL h1 hz hn hq
      go_wp2_with fail
      go_returns
      unfold RListIs
      rw [HE.out, HLs.out]
      exact ⟨none, 0, rfl, .inl rfl, HT1.out⟩
    | true =>
      rw [hqd] at lk
      simp only [if_true] at lk
      have hE : listE T path = 0 := by
        unfold listE
        rw [if_neg (by rw [hz]; simp), hn, if_pos (by unfold isDirT; rw [hq]; exact hqd)]
      have hL : listT T path = sortedNs q.ds := by
        unfold listT
        rw [if_pos hE, hn, hq]; rfl
      have HE := hid hE
      have HLs := hid hL
      have HM := hid (h1.dir n q hq hqd)
      have HLen := hid (HB.out n q hq)
      clear hqd hE hL h1 hz hn hq
      go_wp2_with (at_range; refine wpList_maprange rfl _ _ 9 3 rfl Tryz.underlying166 rfl HM.out ?_; intro w2 hR2 t2 hs2; have HR2 := hid hR2; have HT2 := hid (HT1.out.trans t2); clear hR2 t2 hs2)
      obtain ⟨r, hr⟩ : ∃ r, w1.heap.size = r := ⟨_, rfl⟩
      rw [hr] at HR2
      rw [hr]
      have HWr := hid hr
      clear hr hh
      go_frame
      go_loopg [8] (q.ds.length) (fun gl v wr => ∃ (ks : List ByteArray), Hid (RangeOf wr (D n) r encS encI q.ds (fun k => k ∈ ks) gl) ∧ Hid (RowV wr 9 v (ks.map encS)) ∧ Hid (∀ g, v.ownBlock = some g → r < g) ∧ Hid (ks.Nodup ∧ ∀ k ∈ ks, k ∈ q.ds.map (·.1)) ∧ Hid (ks.length + gl ≤ q.ds.length) ∧ Hid (Turn (fun _ => False) w wr))
      case atStart =>
        refine ⟨[], ?_, hid (RowV.none _ _), hid (fun g h => by cases h), hid ⟨List.nodup_nil, fun k h => by cases h⟩, hid (by simp), HT2⟩
        have e : (fun k : ByteArray => k ∈ ([] : List ByteArray)) = fun _ => False := by funext k; simp
        rw [e]; exact HR2
      case round =>
        clear HR2 HT2
        obtain ⟨ks, hR, hI, hO, hK, hLen, hT⟩ := hrel
        go_wp2_with (at_next; refine wpList_mapnext rfl _ rfl rfl hR.out ?_ ?_)
        · intro hall
          have hp : ks.Perm (q.ds.map (·.1)) := by
            rw [List.perm_ext_iff_of_nodup hK.out.1 HM.out.nodup]
            intro k
            refine ⟨hK.out.2 k, fun hk => ?_⟩
            obtain ⟨t, ht, rfl⟩ := List.mem_map.1 hk
            exact hall t.1 t.2 ht
          have hkl : ks.length ≤ 1000000 := by have := HLen.out; have := hLen.out; omega
          have hlen : ks.length = q.ds.length := by rw [hp.length_eq, List.length_map]
          have hx : (ks.map (·.data.toList)).map encStr = ks.map encS := by
            rw [List.map_map]
            exact List.map_congr_left fun k _ => congrArg Value.string (Go.Lib.mk_data k)
          have HP := hid hp
          have HX := hid hx
          have HLn := hid hlen
          clear hall hp hx hlen
          rcases hI.out.shape with ⟨rfl, hnil⟩ | ⟨g, cap, rfl, _, _, hg⟩
          · have HN := hid (sortStrs_none wr)
            have HNil := hid hnil
            clear hnil
            go_wp2_with fail
            refine HN.out.mono ?_
            rintro e w5 ⟨rfl, hw⟩; subst w5
            go_wp2_with fail
            go_returns
            have h0 : ks = [] := List.map_eq_nil_iff.1 HNil.out
            have h2 : sortedNs q.ds = [] := List.eq_nil_of_length_eq_zero (by rw [sortedNs_length, ← HLn.out, h0]; rfl)
            unfold RListIs
            rw [HE.out, HLs.out, h2]
            exact ⟨none, 0, rfl, .inl rfl, hT.out⟩
          · have hS := sortStrs (w := wr) (g := g) (cap := cap) (xs := ks.map (·.data.toList)) (by rw [HX.out]; exact hI.out) (by rw [List.length_map]; exact hkl)
            rw [List.length_map] at hS
            have HS := hid hS
            clear hS
            go_wp2_with fail
            refine HS.out.mono ?_
            rintro e w5 ⟨rfl, t5, hc5⟩
            have HT5 := hid t5
            have HC5 := hid hc5
            clear t5 hc5
            go_wp2_with fail
            go_returns
            have hrg := hO.out g rfl
            unfold RListIs
            rw [HE.out, HLs.out]
            refine ⟨some ⟨g, 0, none⟩, cap, by rw [sortedNs_length, ← HLn.out]; first | rfl | rw [List.length_map], .inr ⟨g, 0, rfl, Nat.lt_of_lt_of_le hg HT5.out.size, fun j s hs => ?_⟩, hT.out.trans' HT5.out (fun k hk e => by have := HWr.out; have := HT1.out.size; omega)⟩
            unfold sortedNs at hs
            rw [List.getElem?_map, Option.map_eq_some_iff] at hs
            obtain ⟨x, hx1, rfl⟩ := hs
            have hpp : (ks.map (·.data.toList)).Perm (q.ds.map (·.1.data.toList)) := by
              have := HP.out.map (·.data.toList)
              rwa [List.map_map] at this
            rw [← sortedS_of_perm hpp] at hx1
            rw [Nat.zero_add]
            exact HC5.out j x hx1
        · intro k z w5 cnt' hpm hns hR5 hlt5 t5 hsz5 hen
          (try simp only at hns hen)
          have HNs := hid hns
          have HR5 := hid hR5
          have HT5 := hid t5
          have HK := hid (List.mem_map.2 ⟨(k, z), hpm, rfl⟩ : k ∈ q.ds.map (·.1))
          have hks : (ks.map encS).length ≤ 1000000 := by rw [List.length_map]; have := HLen.out; have := hLen.out; omega
          have hI5 := hI.out.turned t5 (fun g hg e => by have := hO.out g hg; omega)
          have HO1 : Hid (RowV (w5.alloc (.cells #[.string k] 9)) 9 u8 (ks.map encS)) := hid (hI5.turned ((Turn.refl (fun _ => False) _).alloc _) (fun _ _ => id))
          have HC1 : Hid ((w5.alloc (.cells #[.string k] 9)).cell? ⟨w5.heap.size, 0, none⟩ = some (.string k)) := hid (by simp)
          unfold encI encS at hen
          clear hns hR5 hpm hI5 t5 hsz5
          go_wp2_with (at_builtin; refine wpList_append_val (z := .string ⟨#[]⟩) (bytes := 16) rfl _ _ rfl Tryz.underlying40 (by kernel_rfl) rfl (by decide) u8 (ks.map encS) rfl HO1.out w5.heap.size 1 (.string k) rfl HC1.out rfl hks ?_; intro g3 z3 w3 hi3 t3 ho3; have HI3 := hid hi3; have HT3 := hid t3; have HO3 := hid ho3; clear hi3 t3 ho3)
          go_roundg cnt'
          case measure => omega
          case rel =>
            refine ⟨ks ++ [k], ?_, hid (by have h := HI3.out; rw [List.length_map] at h; rw [List.map_append]; exact h), hid ?_, hid ⟨?_, ?_⟩, hid ?_, hid ?_⟩
            · have e : (fun k_1 : ByteArray => k_1 ∈ ks ++ [k]) = fun k_1 => k_1 ∈ ks ∨ k_1 = k := by funext x; simp
              rw [e]
              have hpr : D n < r := by have := HM.out.lt; have := HWr.out; omega
              exact hid ((HR5.out.turned ((Turn.refl (fun _ => False) w5).alloc (.cells #[.string k] 9)) id id).turned HT3.out (fun e => by have := hO.out _ e; omega) (fun e => by have := hO.out _ e; omega))
            · intro g' hg'
              cases hg'
              have hrw := HR5.out.lt.2.1
              rcases HO3.out with h | h
              · exact hO.out _ h
              · rw [World.size_alloc] at h; simp only; omega
            · rw [List.nodup_append]
              refine ⟨hK.out.1, by simp, fun a ha b hb e => ?_⟩
              rw [List.mem_singleton.1 hb] at e
              exact HNs.out (by rw [← e]; exact ha)
            · intro k' hk'
              rcases List.mem_append.1 hk' with h | h
              · exact hK.out.2 k' h
              · rw [List.mem_singleton.1 h]; exact HK.out
            · rw [List.length_append, List.length_singleton]
              have := hLen.out
              omega
            · exact ((hT.out.trans' HT5.out (fun k hk e => by have := HWr.out; have := HT1.out.size; omega)).alloc _).trans' HT3.out (fun k hk e => by have := hO.out _ e; have := HWr.out; have := HT1.out.size; omega)
  · have hE : listE T path = (findT T path).1 := if_pos hz
    have hL : listT T path = [] := if_neg (by rw [hE]; exact hz)
    have hzn : ((findT T path).1 == 0) = false := by simpa using hz
    have hzm : ((findT T path).1 != 0) = true := by simpa using hz
    have HE := hid hE
    have HLs := hid hL
    generalize (findT T path).1 = zz at *
    clear hz hE hL
    go_wp2_with fail
    go_returns
    unfold RListIs
    rw [HE.out, HLs.out]
    exact ⟨none, 0, rfl, .inl rfl, HT1.out⟩
end
end Go.Proofs.YtiohpmcedfbcgacGreatDoor
