/- Package vm: maps.Clone at pages, Resident, Fork. Conditions: each theorem's own premises. -/
import Derived.Test.YtiohpmcedfbcgabGreatDoorVmLoad
import Derived.Test.YtiohpmcedfbcgabGreatDoorMapRange
import Derived.Shelf.SlMaps.Clone
namespace Go.Proofs.YtiohpmcedfbcgabGreatDoor
open Go.RowKit Go.MapKept
set_option linter.unusedVariables false

section
variable {w w' w1 w2 w3 : World} {s : SB} {n : Nat} {t t1 t2 : St} {sp pm sb : Nat} {P P' : Int → Option Pg} {O : Int → Nat}
set_option maxHeartbeats 2000000 in
set_option maxRecDepth 100000 in
theorem clonePg_is {pl : List (Int × Pg)} (h : MapIs w pm (.int .i64) encI encPg pl) :
    Calls Tryz.prog 71 #[.map (some pm)] w fun e w' => e = .returned (.map (some w.heap.size)) ∧ MapIs w' w.heap.size (.int .i64) encI encPg pl ∧ Turn (fun _ => False) w w' := by
  obtain ⟨⟨es, clock, hb, hs, hm⟩, hn⟩ := h
  have hq := fun w => run_eql_map_nil_sl (P := Tryz.prog) w 135 _ _ (some pm) Tryz.underlying135
  have HS := hid (show Stamped es clock ∧ es.toList.map (fun e => (e.key, e.val)) = pl.map (fun p => (encI p.1, encPg p.2)) ∧ MNodup pl from ⟨hs, hm, hn⟩)
  clear hs hm hn
  go_enter Tryz.func71, Tryz.ntmps71
  go_wp2
  rw [@run_callFunc_extern Tryz.prog 138 _ Extern.MapsClone.clone Tryz.func138 (by kernel_rfl) (by kernel_rfl) (by kernel_rfl) (by kernel_rfl), run_maps_clone_sl w 135 hb]
  simp only [Result.andThen]
  rw [Oper.upon_value]
  go_wp2
  rw [run_typeAssert_map_sl _ 135 20 _ _ _ Tryz.underlying135]
  simp only [Result.andThen]
  rw [Oper.upon_value]
  go_wp2
  go_ret
  exact ⟨rfl, ⟨⟨es, clock, (MapKept.heap_alloc w _).1, HS.out.1, HS.out.2.1⟩, HS.out.2.2⟩, (Turn.refl _ _).alloc _⟩

/-- How many pages of a list have a frame. -/
def resL (L : List (Int × Pg)) : Nat := (L.map fun p => if 0 ≤ p.2.2 then 1 else 0).sum
def resO (o : Option Pg) : Nat := o.elim 0 fun p => if 0 ≤ p.2 then 1 else 0
def resP (P : Int → Option Pg) : Nat := sumN (fun i => resO (P (i : Int))) 64
def cntL (L : List (Int × Pg)) (f : Int) : Nat := (L.map fun p => hasF (some p.2) f).sum
theorem resL_le : ∀ L : List (Int × Pg), resL L ≤ L.length
  | [] => Nat.le_refl _
  | p :: L => by
    have h1 := resL_le L
    unfold resL at *
    rw [List.map_cons, List.sum_cons, List.length_cons]
    split <;> omega
theorem cntL_le (f : Int) : ∀ L : List (Int × Pg), cntL L f ≤ L.length
  | [] => Nat.le_refl _
  | p :: L => by
    have h1 := cntL_le f L
    have h2 := hasF_le (some p.2) f
    unfold cntL at *
    rw [List.map_cons, List.sum_cons, List.length_cons]
    omega
theorem resL_all {pl : List (Int × Pg)} (hn : MNodup pl) (h : SpIs w sp pm sb P) (he : ∀ i, mget pl i = P i) : resL pl = resP P := by
  have h1 := sum_pages resO rfl pl hn (fun p hp => h.dom p.1 p.2 (by rw [← he]; exact mget_mem hn hp))
  exact h1.trans (sumN_congr fun i _ => by rw [he])
theorem cntL_all {pl : List (Int × Pg)} (hn : MNodup pl) (h : SpIs w sp pm sb P) (he : ∀ i, mget pl i = P i) (f : Int) : cntL pl f = cntF P f := by
  have h1 := sum_pages (fun o => hasF o f) rfl pl hn (fun p hp => h.dom p.1 p.2 (by rw [← he]; exact mget_mem hn hp))
  exact h1.trans (sumN_congr fun i _ => by rw [he])
theorem resP_le (P : Int → Option Pg) : resP P ≤ 64 := sumN_max (m := 1) (k := 64) (fun i _ => by
  unfold resO
  cases P (i : Int) with
  | none => exact Nat.zero_le _
  | some p => show (if 0 ≤ p.2 then 1 else 0) ≤ 1; split <;> omega)
theorem nodup_of_keys {β : Type} {l : List (Int × β)} (h : MNodup l) : l.Nodup := List.nodup_iff_pairwise_ne.2 (List.Pairwise.imp (fun h e => h (congrArg Prod.fst e)) (List.pairwise_map.1 h))
theorem more_seen {β : Type} {l L : List (Int × β)} {seenK : Int → Prop} {f : Int} {b : β} (hn : MNodup l) (hL : L.Nodup ∧ ∀ t, t ∈ L ↔ t ∈ l ∧ seenK t.1) (hpm : (f, b) ∈ l) (hns : ¬ seenK f) :
    ((f, b) :: L).Nodup ∧ ∀ t, t ∈ (f, b) :: L ↔ t ∈ l ∧ (seenK t.1 ∨ t.1 = f) := by
  refine ⟨List.nodup_cons.2 ⟨fun h => hns ((hL.2 _).1 h).2, hL.1⟩, fun t => ?_⟩
  rw [List.mem_cons, hL.2]
  constructor
  · rintro (rfl | ⟨h1, h2⟩)
    · exact ⟨hpm, .inr rfl⟩
    · exact ⟨h1, .inl h2⟩
  · rintro ⟨h1, h2 | h2⟩
    · exact .inr ⟨h1, h2⟩
    · have e1 : mget l f = some t.2 := mget_mem hn (h2 ▸ h1)
      have e2 : mget l f = some b := mget_mem hn hpm
      rw [e1] at e2
      cases e2
      exact .inl (by rw [← h2])
theorem all_seen' {β : Type} {l L : List (Int × β)} {seenK : Int → Prop} (hn : MNodup l) (hL : L.Nodup ∧ ∀ t, t ∈ L ↔ t ∈ l ∧ seenK t.1) (hall : ∀ p ∈ l, seenK p.1) : L.Perm l :=
  (List.perm_ext_iff_of_nodup hL.1 (nodup_of_keys hn)).2 (fun t => by
    rw [hL.2]
    exact ⟨fun h => h.1, fun h => ⟨h, hall t h⟩⟩)
set_option maxHeartbeats 2000000 in
set_option maxRecDepth 100000 in
theorem vmRes_is (h : SpIs w sp pm sb P) : Calls Tryz.prog 25 #[.pointer (some ⟨sp, 0, none⟩)] w fun e w' => e = .returned (.int .i64 (resP P)) ∧ Turn (fun _ => False) w w' := by
  have c1 := h.c1
  have H := hid h
  obtain ⟨pl, hpl, he⟩ := h.pages
  have hle : pl.length ≤ 64 := by rw [len_pages hpl.nodup h he]; exact lenP_le P
  have HPl := hid hpl
  have HE := hid he
  clear h hpl he
  go_enter Tryz.func25, Tryz.ntmps25
  go_wp2_with (at_range; refine wpList_maprange rfl _ _ 3 143 rfl Tryz.underlying135 rfl HPl.out ?_; intro w2 hR2 t2 hs2; have HR2 := hid hR2; have HT2 := hid t2; clear hR2 t2 hs2)
  obtain ⟨r, hrr⟩ : ∃ r, w.heap.size = r := ⟨_, rfl⟩
  rw [hrr] at HR2
  rw [hrr]
  have HWr := hid hrr
  clear hrr
  go_frame
  go_loopg [3] (pl.length) (fun g n wr => ∃ (seenK : Int → Prop) (L : List (Int × Pg)), Hid (RangeOf wr pm r encI encPg pl seenK g) ∧ Hid (L.Nodup ∧ ∀ t, t ∈ L ↔ t ∈ pl ∧ seenK t.1) ∧ L.length + g ≤ pl.length ∧ n = .int .i64 (resL L) ∧ Hid (Turn (fun _ => False) w wr))
  case atStart => exact ⟨_, [], HR2, hid ⟨List.nodup_nil, fun t => by simp⟩, by simp, rfl, HT2⟩
  case round =>
    clear HR2 HT2
    obtain ⟨seenK, L, hR, hL, hLg, rfl, hT⟩ := hrel
    go_wp2_with (at_next; refine wpList_mapnext rfl _ rfl rfl hR.out ?_ ?_)
    · intro hall
      have hperm := all_seen' HPl.out.nodup hL.out (fun p hp => hall p.1 p.2.1 p.2.2 hp)
      have hsum : resL L = resP P := ((hperm.map _).sum_nat).trans (resL_all HPl.out.nodup H.out HE.out)
      clear hall hperm
      rw [hsum]
      clear hsum
      go_wp2_with fail
      go_ret
      exact ⟨rfl, hT.out⟩
    · intro i q1 f w5 cnt' hpm hns hR5 hlt5 t5 hsz5 hen
      (try simp only at hns hen)
      have HR5 := hid hR5
      have hT5 : Turn (fun _ => False) w w5 := hT.out.trans' t5 (fun k hk e => absurd e (by have := HWr.out; omega))
      have HT5 := hid (hT5.alloc (.cells #[.int .i64 q1, .int .i64 f] 143))
      have HR6 := hid (hR5.turned ((Turn.refl (fun _ => False) w5).alloc (.cells #[.int .i64 q1, .int .i64 f] 143)) id id)
      have HL2 := hid (more_seen HPl.out.nodup hL.out hpm hns)
      have hN := resL_le L
      have hN3 : resL ((i, (q1, f)) :: L) = resL L + if 0 ≤ f then 1 else 0 := by
        simp only [resL, List.map_cons, List.sum_cons]; omega
      have HN3 := hid hN3
      obtain ⟨N, hNN⟩ : ∃ N, resL L = N := ⟨_, rfl⟩
      rw [hNN] at HN3 hN
      unfold encPg at hen
      clear hpm hns hR5 t5 hT5 hL hR hT hN3
      rw [hNN]
      clear hNN
      by_cases hf : 0 ≤ f
      · go_wp2_with fail
        go_roundg cnt'
        case measure => omega
        case rel => exact ⟨_, _, HR6, HL2, by simp only [List.length_cons]; omega, by rw [HN3.out, if_pos hf]; go_num, HT5⟩
      · go_wp2_with fail
        go_roundg cnt'
        case measure => omega
        case rel => exact ⟨_, _, HR6, HL2, by simp only [List.length_cons]; omega, by rw [HN3.out, if_neg (by omega)]; rfl, HT5⟩
end
end Go.Proofs.YtiohpmcedfbcgabGreatDoor
