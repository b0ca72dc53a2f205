/- The document's tree: Read, Cut. Conditions: each theorem's own premises. -/
import Derived.Test.YtiohpmcedfbcgacGreatDoorRefTreeLink
import Derived.Test.YtiohpmcedfbcgacGreatDoorTreeBytes
namespace Go.Proofs.YtiohpmcedfbcgacGreatDoor
open Go.RowKit
set_option linter.unusedVariables false
section
variable {w w' w1 w2 w3 wa : World} {rb nm b d c dn : Nat} {T T1 T2 : PT} {B D : Int → Nat} {F : Nat → Prop} {p p' q nn : PN} {n k : Int} {s : ByteArray}
theorem fileE_zero (h : fileE T n = 0) : ∃ p, mget T n = some p ∧ p.isDir = false := by
  unfold fileE at h
  cases hn : mget T n with
  | none => rw [hn] at h; cases h
  | some p =>
    rw [hn] at h
    refine ⟨p, rfl, ?_⟩
    cases hd : p.isDir with
    | false => rfl
    | true => simp [hd] at h
theorem rfld2 (a : Option Nat) (b : Bool) (c : ByteArray) (d : Int) (w : World) : (Instr.field 179 (.agg #[.map a, .bool b, .string c, .int .i64 d]) 2).run Tryz.prog w = .ok (.string c) w := by kernel_rfl
theorem ext_step (x : ByteArray) (a j : Nat) (h : a + j < x.size) : x.extract a (a + j) ++ x.extract (a + j) (a + j + 1) = x.extract a (a + (j + 1)) := by
  rw [ByteArray.extract_append_extract]
  congr 1
  · omega
  · omega
set_option maxHeartbeats 4000000 in
set_option maxRecDepth 100000 in
theorem rread_is (h : RTreeIn w rb nm T D) (hok : TOk T) (n at' many : Int) :
    Calls Tryz.prog 110 #[.pointer (some ⟨rb, 0, none⟩), .int .i64 n, .int .i64 at', .int .i64 many] w fun e w' => e = .returned (.tuple #[.string (readT T n at' many), .int .i64 (readE T n at' many)]) ∧ Turn (fun _ => False) w w' := by
  have H := hid h
  have HOk := hid hok
  have HF := hid (rfile_is h n)
  have f2 := @rfld2
  clear h hok
  go_enter Tryz.func110, Tryz.ntmps110
  go_wp2_with fail
  refine HF.out.mono ?_
  rintro e w1 ⟨rfl, t1⟩
  have HT1 := hid t1
  by_cases hz : fileE T n = 0
  · obtain ⟨p, hn, hd⟩ := fileE_zero hz
    have h1 := H.out.turned t1 (fun _ _ => id)
    have hh := h1.hdr
    have lk := h1.look hn
    rw [hd] at lk
    simp only [Bool.false_eq_true, if_false] at lk
    have hdt : dataT T n = p.data := by unfold dataT; rw [hn]; rfl
    have hsz := HOk.out.data n p hn
    have h00 : ¬ (fileE T n ≠ 0) := fun e => e hz
    rw [hz]
    clear hn hd hz h1 t1
    by_cases ha : at' < 0
    · have hr : readE T n at' many = 2 := by unfold readE; rw [if_neg h00, if_pos (.inl ha)]
      have hr2 : readT T n at' many = ByteArray.empty := if_neg (by rw [hr]; decide)
      clear h00 hdt
      go_wp2_with fail
      go_returns
      rw [hr2, hr]
      exact ⟨rfl, HT1.out⟩
    · by_cases hm : many < 0
      · have hr : readE T n at' many = 2 := by unfold readE; rw [if_neg h00, if_pos (.inr hm)]
        have hr2 : readT T n at' many = ByteArray.empty := if_neg (by rw [hr]; decide)
        clear h00 hdt
        go_wp2_with fail
        go_returns
        rw [hr2, hr]
        exact ⟨rfl, HT1.out⟩
      · have hr : readE T n at' many = 0 := by unfold readE; rw [if_neg h00, if_neg (by omega)]
        have hr2 : readT T n at' many = readB p.data at'.toNat many.toNat := by unfold readT; rw [if_pos hr, hdt]
        obtain ⟨x, hx⟩ : ∃ x, p.data = x := ⟨_, rfl⟩
        rw [hx] at lk hsz hr2
        obtain ⟨a0, ha0⟩ : ∃ a0, min at'.toNat x.size = a0 := ⟨_, rfl⟩
        obtain ⟨L, hL⟩ : ∃ L, min many.toNat (x.size - a0) = L := ⟨_, rfl⟩
        have hr3 : readT T n at' many = x.extract a0 (a0 + L) := by rw [hr2]; unfold readB; rw [ha0, hL]
        have HR := hid hr
        have HR3 := hid hr3
        clear h00 hdt hr hr2 hr3 hx
        go_wp2_with fail
        go_loopg [11, 13] (L) (fun gl o i wr => ∃ j : Nat, j + gl = L ∧ o = .string (x.extract a0 (a0 + j)) ∧ i = .int .i64 (at' + j) ∧ wr = w1)
        case atStart => exact ⟨0, by omega, by rw [Nat.add_zero, ByteArray.extract_same]; rfl, by simp, rfl⟩
        case round =>
          obtain ⟨j, hj, rfl, rfl, hwr⟩ := hrel
          subst wr
          have hes : (x.extract a0 (a0 + j)).size = j := by rw [ByteArray.size_extract]; omega
          by_cases hjl : j < L
          · have hst := ext_step x a0 j (by omega)
            obtain rfl : at' = a0 := by omega
            have hc1 : (a0 : Int) + j < x.size := by omega
            have hc2 : ((x.extract a0 (a0 + j)).size : Int) < many := by omega
            have hc3 : IntKind.i64.wrap ((a0 : Int) + j + 1) = ((a0 + j + 1 : Nat) : Int) := by rw [IntWalk.i64_in _ (by omega)]; omega
            go_wp2_with fail
            go_roundg (gk - 1)
            case measure => omega
            case rel => exact ⟨j + 1, by omega, rfl, by congr 1, rfl⟩
          · have hend : ¬ (at' + j < x.size ∧ ((x.extract a0 (a0 + j)).size : Int) < many) := by omega
            obtain rfl : j = L := by omega
            by_cases hc1 : at' + j < x.size
            · have hc2 : ¬ ((x.extract a0 (a0 + j)).size : Int) < many := fun e => hend ⟨hc1, e⟩
              clear hend
              go_wp2_with fail
              go_returns
              rw [HR3.out, HR.out]
              exact ⟨rfl, HT1.out⟩
            · clear hend
              go_wp2_with fail
              go_returns
              rw [HR3.out, HR.out]
              exact ⟨rfl, HT1.out⟩
  · have hr : readE T n at' many = fileE T n := if_pos hz
    have hr2 : readT T n at' many = ByteArray.empty := if_neg (by rw [hr]; exact hz)
    have hzn : (fileE T n != 0) = true := by simpa using hz
    have HR := hid hr
    generalize fileE T n = z at *
    clear hz hr t1
    go_wp2_with fail
    go_returns
    rw [hr2, HR.out]
    exact ⟨rfl, HT1.out⟩
/-- A file is stored anew. -/
theorem rstore_fin (H : RTreeIn w rb nm T D) (hn : mget T n = some p) (hd : p.isDir = false) (q : PN) (hqd : q.isDir = false) (hds : q.ds = p.ds) (t : Turn (fun _ => False) w wa) :
    ∃ w3, (Instr.mapUpdate 61 (.map (some nm)) (.int .i64 n) (.agg #[.map none, .bool false, .string q.data, .int .i64 (q.held : Int)])).run Tryz.prog wa = .ok () w3 ∧ RTreeIn w3 rb nm (mput T n q) D ∧ Turn (RFoot rb nm T D) w w3 ∧ (∀ j, RFoot rb nm (mput T n q) D j → RFoot rb nm T D j) := by
  have h1 := H.turned t (fun _ _ => id)
  obtain ⟨w3, hrun3, hm3, t3⟩ := h1.mp.run_update (P := Tryz.prog) keyI Tryz.underlying61 Tryz.underlying3 n (D n, q)
  have hv : rnodeV (D n, q) = .agg #[.map none, .bool false, .string q.data, .int .i64 (q.held : Int)] := by unfold rnodeV; simp only [hqd]; rfl
  rw [hv] at hrun3
  exact ⟨w3, hrun3, h1.store hn (hqd.trans hd.symm) hds hm3 t3, (t.mono (fun _ _ h => h.elim)).trans (t3.mono (fun _ _ e => .inr (.inl e))), rfoot_put hn (hqd.trans hd.symm)⟩
set_option maxHeartbeats 4000000 in
set_option maxRecDepth 100000 in
theorem rcut_is (h : RTreeIn w rb nm T D) (hok : TOk T) (n size : Int) :
    Calls Tryz.prog 111 #[.pointer (some ⟨rb, 0, none⟩), .int .i64 n, .int .i64 size] w fun e w' => e = .returned (.int .i64 (cutE T n size)) ∧ RTreeTo rb (RFoot rb nm T D) w w' (cutT T n size) := by
  have H := hid h
  have HOk := hid hok
  have HF := hid (rfile_is h n)
  have HSame : Hid (cutE T n size ≠ 0 → ∀ w', Turn (fun _ => False) w w' → RTreeTo rb (RFoot rb nm T D) w w' (cutT T n size)) := hid (fun hz w' tt => by
    have : cutT T n size = T := if_neg hz
    rw [this]
    exact RTreeTo.same ⟨nm, D, H.out, rfl⟩ tt)
  clear h hok
  go_enter Tryz.func111, Tryz.ntmps111
  go_wp2_with fail
  refine HF.out.mono ?_
  rintro e w1 ⟨rfl, t1⟩
  have HT1 := hid t1
  by_cases hz : fileE T n = 0
  · obtain ⟨p, hn, hd⟩ := fileE_zero hz
    have h1 := H.out.turned t1 (fun _ _ => id)
    have hh := h1.hdr
    have H1 := hid h1
    have lk := h1.look hn
    rw [hd] at lk
    simp only [Bool.false_eq_true, if_false] at lk
    have hdt : dataT T n = p.data := by unfold dataT; rw [hn]; rfl
    have hsz := HOk.out.data n p hn
    have h00 : ¬ (fileE T n ≠ 0) := fun e => e hz
    have HN := hid hn
    have HD := hid hd
    rw [hz]
    by_cases hs : size < 0
    · have hE : cutE T n size = 2 := by unfold cutE; rw [if_neg h00, if_pos hs]
      have HR := hid (HSame.out (by rw [hE]; decide) w1 t1)
      have HE := hid hE
      clear hn hd hz h1 t1 h00 hdt hE
      go_wp2_with fail
      go_returns
      rw [HE.out]
      exact ⟨rfl, HR.out⟩
    · have hE : cutE T n size = 0 := by unfold cutE; rw [if_neg h00, if_neg hs]
      have hT : cutT T n size = mput T n { p with data := p.data.extract 0 (min size.toNat p.data.size) } := by
        unfold cutT setDataT
        rw [if_pos hE, hdt, hn]; rfl
      by_cases hlt : size < p.data.size
      · have hmin : min size.toNat p.data.size = size.toNat := by omega
        rw [hmin] at hT
        obtain ⟨x, hx⟩ : ∃ x, p.data.extract 0 size.toNat = x := ⟨_, rfl⟩
        rw [hx] at hT
        obtain ⟨W, hW⟩ : ∃ W, w1.alloc (.cells #[.map none, .bool false, .string x, .int .i64 (p.held : Int)] 179) = W := ⟨_, rfl⟩
        have tW : Turn (fun _ => False) w1 W := by rw [← hW]; exact (Turn.refl _ _).alloc _
        have hhW := (h1.turned tW (fun _ _ => id)).hdr
        obtain ⟨w3, hrun, hin3, t3, hf3⟩ := rstore_fin h1 hn hd { p with data := x } hd rfl tW.drew
        have hto : RTreeTo rb (RFoot rb nm T D) w w3 (cutT T n size) := by
          rw [hT]
          exact ⟨_, ⟨nm, D, hin3, rfl⟩, (HT1.out.mono (fun _ _ h => h.elim)).trans t3, fun j hj => .inl (hf3 j hj), fun v hv => hin3.hdr.trans (H.out.hdr.symm.trans hv)⟩
        have HTo := hid hto
        have HE := hid hE
        simp only at hrun
        rw [← hW, ← hx] at hhW hrun
        clear hn hd hz h1 t1 h00 hdt hE hT hto hin3 t3 hf3 tW hmin hW hx
        go_wp2_with fail
        go_region
        all_goals go_wp2_with fail
        all_goals go_returns
        all_goals rw [HE.out]
        all_goals exact ⟨rfl, HTo.out⟩
      · have hmin : p.data.extract 0 (min size.toNat p.data.size) = p.data := by
          rw [show min size.toNat p.data.size = p.data.size by omega]
          exact ByteArray.extract_zero_size
        rw [hmin] at hT
        obtain ⟨x, hx⟩ : ∃ x, p.data = x := ⟨_, rfl⟩
        rw [hx] at hT lk hlt
        obtain ⟨W, hW⟩ : ∃ W, w1.alloc (.cells #[.map none, .bool false, .string x, .int .i64 (p.held : Int)] 179) = W := ⟨_, rfl⟩
        have tW : Turn (fun _ => False) w1 W := by rw [← hW]; exact (Turn.refl _ _).alloc _
        have hhW := (h1.turned tW (fun _ _ => id)).hdr
        obtain ⟨w3, hrun, hin3, t3, hf3⟩ := rstore_fin h1 hn hd { p with data := x } hd rfl tW.drew
        have hto : RTreeTo rb (RFoot rb nm T D) w w3 (cutT T n size) := by
          rw [hT]
          exact ⟨_, ⟨nm, D, hin3, rfl⟩, (HT1.out.mono (fun _ _ h => h.elim)).trans t3, fun j hj => .inl (hf3 j hj), fun v hv => hin3.hdr.trans (H.out.hdr.symm.trans hv)⟩
        have HTo := hid hto
        have HE := hid hE
        simp only at hrun
        rw [← hW] at hhW hrun
        clear hn hd hz h1 t1 h00 hdt hE hT hto hin3 t3 hf3 tW hmin hW hx
        go_wp2_with fail
        go_region
        all_goals go_wp2_with fail
        all_goals go_returns
        all_goals rw [HE.out]
        all_goals exact ⟨rfl, HTo.out⟩
  · have hE : cutE T n size = fileE T n := if_pos hz
    have HR := hid (HSame.out (by rw [hE]; exact hz) w1 t1)
    have hzn : (fileE T n != 0) = true := by simpa using hz
    have HE := hid hE
    generalize fileE T n = z at *
    clear hz hE t1
    go_wp2_with fail
    go_returns
    rw [HE.out]
    exact ⟨rfl, HR.out⟩
end
end Go.Proofs.YtiohpmcedfbcgacGreatDoor
