/- Several texts of ours in one, in build order (RefTreeLink, RefTreeMake). Conditions: each theorem's own premises. -/
import Derived.Test.YtiohpmcedfbcgacGreatDoorRefTreeChange
import Derived.Test.YtiohpmcedfbcgacGreatDoorTreeHold
/- The document's tree: Link, file. Conditions: each theorem's own premises. -/
namespace Go.Proofs.YtiohpmcedfbcgacGreatDoor
open Go.RowKit
set_option linter.unusedVariables false
section
variable {w w' w1 w2 w3 : World} {rb nm b d c dn : Nat} {T T1 T2 : PT} {B D : Int → Nat} {F : Nat → Prop} {p p' q nn : PN} {n k : Int} {s : ByteArray}
theorem rnode_field (p : PN) (d : Nat) (w : World) : (Instr.field 179 (rnodeV (d, p)) 1).run Tryz.prog w = .ok (.bool p.isDir) w := by
  unfold rnodeV; kernel_rfl
set_option maxHeartbeats 4000000 in
set_option maxRecDepth 100000 in
theorem rlink_is (h : RTreeIn w rb nm T D) (hok : TOk T) (old path : ByteArray) (hs1 : old.size < 4294967281) (hs2 : path.size < 4294967281) :
    Calls Tryz.prog 100 #[.pointer (some ⟨rb, 0, none⟩), .string old, .string path] w fun e w' => e = .returned (.int .i64 (linkE T old path)) ∧ RTreeTo rb (RFoot rb nm T D) w w' (linkT T old path) := by
  have HFd := hid (rfind_is h hok old hs1)
  have H := hid h
  have HOk := hid hok
  have f1 := @rfld1
  have HSame : Hid (linkE T old path ≠ 0 → ∀ w', Turn (fun _ => False) w w' → RTreeTo rb (RFoot rb nm T D) w w' (linkT T old path)) := hid (fun hz w' tt => by
    have : linkT T old path = T := if_neg hz
    rw [this]
    exact RTreeTo.same ⟨nm, D, H.out, rfl⟩ tt)
  clear h hok
  go_enter Tryz.func100, Tryz.ntmps100
  go_wp2_with fail
  refine HFd.out.mono ?_
  rintro e w1 ⟨rfl, t1⟩
  have HT1 := hid t1
  clear t1
  by_cases hz : (findT T old).1 = 0
  · obtain ⟨q, hq⟩ := findT_there HOk.out hz
    obtain ⟨n, hn⟩ : ∃ n, (findT T old).2 = n := ⟨_, rfl⟩
    rw [hn] at hq
    rw [hz, hn]
    have h1 := H.out.turned HT1.out (fun _ _ => id)
    have hh := h1.hdr
    have lk := h1.look hq
    have H1 := hid h1
    have HFz := hid hz
    have HFn := hid hn
    have HQ := hid hq
    cases hqd : q.isDir with
    | true =>
      rw [hqd] at lk
      simp only [if_true] at lk
      have hE : linkE T old path = 6 := by
        unfold linkE
        rw [if_neg (by rw [hz]; simp), hn, if_pos (by unfold isDirT; rw [hq]; exact hqd)]
      have HR := hid (HSame.out (by rw [hE]; decide) w1 HT1.out)
      have HE := hid hE
      clear hqd hE h1 hz hn hq
      go_wp2_with fail
      go_returns
      rw [HE.out]
      exact ⟨rfl, HR.out⟩
    | false =>
      rw [hqd] at lk
      simp only [Bool.false_eq_true, if_false] at lk
      have HQd := hid hqd
      have HP := hid (rplace_is h1 HOk.out path hs2)
      have hE0 : linkE T old path = if (placeT T path).1 ≠ 0 then (placeT T path).1 else if (mget (dsT T (placeT T path).2.1) (placeT T path).2.2).isSome then 9 else 0 := by
        unfold linkE
        rw [if_neg (by rw [hz]; simp), hn, if_neg (by unfold isDirT; rw [hq]; show ¬ q.isDir = true; rw [hqd]; decide)]
      have HE0 := hid hE0
      clear hqd hE0 h1 hz hn hq
      go_wp2_with fail
      refine HP.out.mono ?_
      rintro e w2 ⟨⟨hz, rfl⟩ | ⟨d, p, s, hpl, hd, hdir, rfl⟩, t2⟩
      · have hE : linkE T old path = (placeT T path).1 := by rw [HE0.out, if_pos hz]
        have HR := hid (HSame.out (by rw [hE]; exact hz) w2 (HT1.out.trans t2))
        have HE := hid hE
        have hzn : ((placeT T path).1 != 0) = true := by simpa using hz
        generalize (placeT T path).1 = z at *
        clear hz t2 hE
        go_wp2_with fail
        go_returns
        rw [HE.out]
        exact ⟨rfl, HR.out⟩
      · have h2 := H1.out.turned t2 (fun _ _ => id)
        have H2 := hid h2
        have HT2 := hid (HT1.out.trans t2)
        have hds : dsT T d = p.ds := by unfold dsT; rw [hd]; rfl
        have hdm := h2.dir d p hd hdir
        have ln := look_name hdm s
        have HD := hid hd
        have HDr := hid hdir
        cases hms : mget p.ds s with
        | some m =>
          have hE : linkE T old path = 9 := by
            rw [HE0.out, hpl, if_neg (by simp)]
            simp only
            rw [hds, hms]; rfl
          have HR := hid (HSame.out (by rw [hE]; decide) w2 HT2.out)
          rw [hms] at ln
          simp only [Option.getD_some, Option.isSome_some] at ln
          have HE := hid hE
          clear h2 hds hdm hms t2 hpl hd hdir hE
          go_wp2_with fail
          go_returns
          rw [HE.out]
          exact ⟨rfl, HR.out⟩
        | none =>
          rw [hms] at ln
          simp only [Option.getD_none, Option.isSome_none] at ln
          have hE : linkE T old path = 0 := by
            rw [HE0.out, hpl, if_neg (by simp)]
            simp only
            rw [hds, hms]; rfl
          have hne : n ≠ d := fun e => by have := HQ.out; rw [e, hd] at this; cases this; have := HQd.out; rw [hdir] at this; cases this
          have hT : linkT T old path = mput (mput T d { p with ds := mput p.ds s n }) n { q with names := q.names + 1 } := by
            unfold linkT
            rw [if_pos hE, hpl, HFn.out]
            simp only
            rw [updN_is hd, updN_is (p := q) (by rw [mget_mput, if_neg hne]; exact HQ.out)]
          obtain ⟨w3, hrun, hm3, t3⟩ := hdm.run_update (P := Tryz.prog) keyS Tryz.underlying166 Tryz.underlying9 s n
          replace hrun : (Instr.mapUpdate 166 (.map (some (D d))) (.string s) (.int .i64 n)).run Tryz.prog w2 = .ok () w3 := hrun
          have hin3 := h2.name HOk.out.nd hd hdir hm3 t3
          have hq3 : mget (mput T d { p with ds := mput p.ds s n }) n = some q := by rw [mget_mput, if_neg hne]; exact HQ.out
          have hin4 := hin3.count (mput_nodup HOk.out.nd d _) hq3 (q.names + 1)
          have hfin : RTreeTo rb (RFoot rb nm T D) w w3 (linkT T old path) := by
            rw [hT]
            refine ⟨_, ⟨nm, D, hin4, rfl⟩, (HT2.out.mono (fun _ _ h => h.elim)).trans (t3.mono (fun j _ e => .inr (.inr ⟨d, p, HD.out, HDr.out, e⟩))), fun j hj => .inl (rfoot_put (q' := { p with ds := mput p.ds s n }) hd rfl j (rfoot_put (q' := { q with names := q.names + 1 }) hq3 rfl j hj)), fun v hv => hin4.hdr.trans (H.out.hdr.symm.trans hv)⟩
          have HFin := hid hfin
          have HE := hid hE
          clear h2 hds hdm hms t2 hpl hd hdir hE hne hT hm3 t3 hin3 hq3 hin4 hfin
          go_wp2_with fail
          go_returns
          rw [HE.out]
          exact ⟨rfl, HFin.out⟩
  · have hE : linkE T old path = (findT T old).1 := if_pos hz
    have HR := hid (HSame.out (by rw [hE]; exact hz) w1 HT1.out)
    have HE := hid hE
    have hzn : ((findT T old).1 == 0) = false := by simpa using hz
    have hzm : ((findT T old).1 != 0) = true := by simpa using hz
    generalize (findT T old).1 = z at *
    clear hz hE
    go_wp2_with fail
    go_returns
    rw [HE.out]
    exact ⟨rfl, HR.out⟩
set_option maxHeartbeats 2000000 in
set_option maxRecDepth 100000 in
theorem rfile_is (h : RTreeIn w rb nm T D) (n : Int) :
    Calls Tryz.prog 217 #[.pointer (some ⟨rb, 0, none⟩), .int .i64 n] w fun e w' => e = .returned (.int .i64 (fileE T n)) ∧ Turn (fun _ => False) w w' := by
  have hh := h.hdr
  have f1 := @rfld1
  have HE : Hid (∀ p, mget T n = some p → fileE T n = if p.isDir then 6 else 0) := hid (fun p hp => by unfold fileE; rw [hp]; rfl)
  have HE0 : Hid (mget T n = none → fileE T n = 7) := hid (fun hp => by unfold fileE; rw [hp]; rfl)
  have lk := h.mp.run_lookup (P := Tryz.prog) keyI Tryz.underlying61 Tryz.underlying3 (zeroRNode w) n true
  have hg := rlist_get D T n
  cases hn : mget T n with
  | none =>
    rw [hg, hn] at lk
    replace lk : (Instr.lookup 61 (.map (some nm)) (.int .i64 n) true).run Tryz.prog w = .ok (.tuple #[.agg #[.map none, .bool false, .string ⟨#[]⟩, .int .i64 0], .bool false]) w := lk
    have HN := hid hn
    clear h hn hg
    go_enter Tryz.func217, Tryz.ntmps217
    go_wp2_with fail
    all_goals go_returns
    all_goals rw [HE0.out HN.out]
    all_goals exact ⟨rfl, (Turn.refl _ _).alloc _⟩
  | some p =>
    rw [hg, hn] at lk
    replace lk : (Instr.lookup 61 (.map (some nm)) (.int .i64 n) true).run Tryz.prog w = .ok (.tuple #[.agg #[.map (if p.isDir then some (D n) else none), .bool p.isDir, .string p.data, .int .i64 (p.held : Int)], .bool true]) w := lk
    have HN := hid hn
    clear h hn hg
    cases hd : p.isDir with
    | false =>
      rw [hd] at lk
      have HD := hid hd
      clear hd
      go_enter Tryz.func217, Tryz.ntmps217
      go_wp2_with fail
      all_goals go_returns
      all_goals rw [HE.out p HN.out, HD.out]
      all_goals exact ⟨rfl, (Turn.refl _ _).alloc _⟩
    | true =>
      rw [hd] at lk
      have HD := hid hd
      clear hd
      go_enter Tryz.func217, Tryz.ntmps217
      go_wp2_with fail
      all_goals go_returns
      all_goals rw [HE.out p HN.out, HD.out]
      all_goals exact ⟨rfl, (Turn.refl _ _).alloc _⟩
end
end Go.Proofs.YtiohpmcedfbcgacGreatDoor
/- The document's tree: Make. Conditions: each theorem's own premises. -/
namespace Go.Proofs.YtiohpmcedfbcgacGreatDoor
open Go.RowKit
set_option linter.unusedVariables false
section
variable {w w' w1 w2 w3 wa : World} {rb nm b d c dn : Nat} {T T1 T2 : PT} {B D : Int → Nat} {F : Nat → Prop} {p p' q nn : PN} {n k : Int} {s : ByteArray}
theorem rmake_fin (H : RTreeIn w rb nm T D) (hok : TOk T) (path : ByteArray) {d : Int} (hd : mget T d = some p) (hdir : p.isDir = true) {K : Nat} (hK1 : 1 ≤ K) (hK : K < 60) (hfn : mget T (K : Int) = none) (hlen : T.length < 60) (hms : mget p.ds s = none)
    (b : Bool) (hT : makeT T path b = nameT (mput T (K : Int) (newN b)) d (mput p.ds s (K : Int))) (t : Turn (fun _ => False) w wa) (hdn : b = true → w.heap.size ≤ dn ∧ MapIs wa dn .string encS encI ([] : List (ByteArray × Int))) :
    ∃ w3 w4, (Instr.mapUpdate 61 (.map (some nm)) (.int .i64 K) (.agg #[.map (if b then some dn else none), .bool b, .string ⟨#[]⟩, .int .i64 0])).run Tryz.prog wa = .ok () w3 ∧ (Instr.mapUpdate 166 (.map (some (D d))) (.string s) (.int .i64 K)).run Tryz.prog w3 = .ok () w4 ∧ RTreeTo rb (RFoot rb nm T D) w w4 (makeT T path b) := by
  have h1 := H.turned t (fun _ _ => id)
  obtain ⟨w3, hrun3, hm3, t3⟩ := h1.mp.run_update (P := Tryz.prog) keyI Tryz.underlying61 Tryz.underlying3 (K : Int) (dn, newN b)
  have ho := h1.own d p hd hdir
  have hndn : ∀ j, RFoot rb nm T D j → b = true → j ≠ dn := fun j hj e e2 => by
    have h3 := H.foot_lt j hj
    have h4 := (hdn e).1
    omega
  have hin3 : RTreeIn w3 rb nm (mput T (K : Int) (newN b)) (updI D K dn) := h1.add hfn hm3 (fun e => ((hdn e).2.turned t3 (fun e2 => hndn nm (.inr (.inl rfl)) e e2.symm))) t3 (fun e hf => hndn dn hf e rfl)
  have hdk : d ≠ (K : Int) := fun e => by rw [e, hfn] at hd; cases hd
  have hd3 : mget (mput T (K : Int) (newN b)) d = some p := by rw [mget_mput, if_neg hdk]; exact hd
  have hDd : updI D K dn d = D d := if_neg hdk
  have hdm := hin3.dir d p hd3 hdir
  rw [hDd] at hdm
  obtain ⟨w4, hrun4, hm4, t4⟩ := hdm.run_update (P := Tryz.prog) keyS Tryz.underlying166 Tryz.underlying9 s (K : Int)
  have hnd3 : MNodup (mput T (K : Int) (newN b)) := mput_nodup hok.nd _ _
  have hin4 : RTreeIn w4 rb nm (mput (mput T (K : Int) (newN b)) d { p with ds := mput p.ds s (K : Int) }) (updI D K dn) := hin3.name hnd3 hd3 hdir (by rw [hDd]; exact hm4) (by rw [hDd]; exact t4)
  have hTT : makeT T path b = mput (mput T (K : Int) (newN b)) d { p with ds := mput p.ds s (K : Int) } := by
    rw [hT]
    unfold nameT
    rw [hd3]; rfl
  refine ⟨w3, w4, hrun3, hrun4, ?_⟩
  rw [hTT]
  refine ⟨_, ⟨nm, _, hin4, rfl⟩, (t.mono (fun _ _ h => h.elim)).trans ((t3.mono (fun _ _ h => by rw [h]; exact .inr (.inl rfl))).trans (t4.mono (fun _ _ h => by rw [h]; exact .inr (.inr ⟨d, p, hd, hdir, rfl⟩)))), fun j hj => ?_, fun v hv => hin4.hdr.trans (H.hdr.symm.trans hv)⟩
  have hj := rfoot_put (q' := { p with ds := mput p.ds s (K : Int) }) hd3 rfl j hj
  rcases hj with h | h | ⟨m, q, hq, hqd, h⟩
  · exact .inl (.inl h)
  · exact .inl (.inr (.inl h))
  · rw [mget_mput] at hq
    by_cases e : m = K
    · rw [if_pos e] at hq
      cases hq
      unfold updI at h
      rw [if_pos e] at h
      exact .inr (by rw [h]; exact (hdn hqd).1)
    · rw [if_neg e] at hq
      unfold updI at h
      rw [if_neg e] at h
      exact .inl (.inr (.inr ⟨m, q, hq, hqd, h⟩))
theorem RTreeTo.after (t : Turn (fun _ => False) w w1) (h : RTreeTo rb F w1 w2 T2) : RTreeTo rb F w w2 T2 := by
  obtain ⟨F', a, t2, hF, hh⟩ := h
  refine ⟨F', a, (t.mono (fun _ _ h => h.elim)).trans t2, fun k hk => (hF k hk).elim .inl (fun e => .inr (Nat.le_trans t.size e)), fun v hv => hh v ((t.cell (lt_of_cell hv) id).trans hv)⟩
set_option maxHeartbeats 4000000 in
set_option maxRecDepth 100000 in
theorem rmake_is (h : RTreeIn w rb nm T D) (hok : TOk T) (path : ByteArray) (hs : path.size < 4294967281) (b : Bool) :
    Calls Tryz.prog 99 #[.pointer (some ⟨rb, 0, none⟩), .string path, .bool b] w fun e w' => e = .returned (.tuple #[.int .i64 (makeK T path), .int .i64 (makeE T path)]) ∧ RTreeTo rb (RFoot rb nm T D) w w' (makeT T path b) := by
  have H := hid h
  have HOk := hid hok
  have HP := hid (rplace_is h hok path hs)
  have f1 := @rfld1
  have hmm := @run_makeMap Tryz.prog
  have HSame : Hid (makeE T path ≠ 0 → ∀ w', Turn (fun _ => False) w w' → RTreeTo rb (RFoot rb nm T D) w w' (makeT T path b)) := hid (fun hz w' tt => by
    have : makeT T path b = T := if_neg hz
    rw [this]
    exact RTreeTo.same ⟨nm, D, H.out, rfl⟩ tt)
  clear h hok
  go_enter Tryz.func99, Tryz.ntmps99
  go_wp2_with fail
  refine HP.out.mono ?_
  rintro e w1 ⟨⟨hz, rfl⟩ | ⟨d, p, s, hpl, hd, hdir, rfl⟩, t1⟩
  · have hE : makeE T path = (placeT T path).1 := if_pos hz
    have HR := hid (HSame.out (by rw [hE]; exact hz) w1 t1)
    have HK := hid (makeK_err hE hz)
    have HE := hid hE
    have hzn : ((placeT T path).1 != 0) = true := by simpa using hz
    generalize (placeT T path).1 = z at *
    clear hz t1 hE
    go_wp2_with fail
    go_returns
    rw [HK.out, HE.out]
    exact ⟨rfl, HR.out⟩
  · have h1 := H.out.turned t1 (fun _ _ => id)
    have H1 := hid h1
    have ln := look_name (h1.dir d p hd hdir) s
    have hh := h1.hdr
    have hds : dsT T d = p.ds := by unfold dsT; rw [hd]; rfl
    have HT1 := hid t1
    have HDr := hid hdir
    have HD := hid hd
    have HSn := hid (placeT_name hpl)
    cases hms : mget p.ds s with
    | some m =>
      have hE : makeE T path = 9 := by
        unfold makeE
        rw [hpl, if_neg (by simp)]
        simp only
        rw [hds, hms]; rfl
      have HR := hid (HSame.out (by rw [hE]; decide) w1 t1)
      rw [hms] at ln
      simp only [Option.getD_some, Option.isSome_some] at ln
      have HE := hid hE
      clear h1 hds hms t1 hpl hd hdir hE
      go_wp2_with fail
      go_returns
      rw [makeK_err HE.out (by decide), HE.out]
      exact ⟨rfl, HR.out⟩
    | none =>
      rw [hms] at ln
      simp only [Option.getD_none, Option.isSome_none] at ln
      have hl : ∀ ty, (Builtin.len_ #[61] ty #[.map (some nm)]).run Tryz.prog w1 = .ok (.int .i64 T.length) w1 := fun ty => by
        have h2 := h1.mp.run_len Tryz.underlying61 ty
        unfold rlist at h2
        rw [List.length_map] at h2
        exact h2
      have hsz := HOk.out.size
      by_cases hfull : 60 ≤ T.length
      · have hfull' : (60 : Int) ≤ T.length := by omega
        have hE : makeE T path = 12 := by
          unfold makeE
          rw [hpl, if_neg (by simp)]
          simp only
          rw [hds, hms, if_neg (by simp), if_pos hfull]
        have HR := hid (HSame.out (by rw [hE]; decide) w1 t1)
        have HE := hid hE
        clear h1 hds hms t1 hpl hd hdir hfull hE
        go_wp2_with fail
        go_returns
        rw [makeK_err HE.out (by decide), HE.out]
        exact ⟨rfl, HR.out⟩
      · have hfull' : ¬ (60 : Int) ≤ T.length := by omega
        have hE : makeE T path = 0 := by
          unfold makeE
          rw [hpl, if_neg (by simp)]
          simp only
          rw [hds, hms, if_neg (by simp), if_neg hfull]
        have hT : makeT T path b = nameT (mput T (freeT T) (newN b)) d (mput p.ds s (freeT T)) := by
          unfold makeT
          rw [if_pos hE, hpl]
          simp only
          rw [hds]
        obtain ⟨f1', f60, fnone, fall⟩ := freeT_spec HOk.out (by omega)
        obtain ⟨K, hK⟩ : ∃ K, freeT T = K := ⟨_, rfl⟩
        rw [hK] at f1' f60 fnone fall hT
        have HK := hid hK
        have HF1 := hid f1'
        have HF60 := hid f60
        have HT := hid hT
        have HMs := hid hms
        have HFn := hid fnone
        have HLk : Hid (∀ wr, Turn (fun _ => False) w1 wr → ∀ k : Nat, k < K → ∃ v, (Instr.lookup 61 (.map (some nm)) (.int .i64 k) true).run Tryz.prog wr = .ok (.tuple #[rnodeV v, .bool true]) wr) := hid (fun wr tr k h3 => by
          have hsome : (mget T (k : Int)).isSome = true := by
            by_cases e : k = 0
            · obtain ⟨p0, hp0, _⟩ := HOk.out.root
              rw [e]
              rw [show ((0 : Nat) : Int) = 0 from rfl, hp0]; rfl
            · exact fall k (by omega) h3
          obtain ⟨q, hq⟩ := Option.isSome_iff_exists.1 hsome
          have hrun := (H1.out.turned tr (fun _ _ => id)).mp.run_lookup (P := Tryz.prog) keyI Tryz.underlying61 Tryz.underlying3 (zeroRNode wr) (k : Int) true
          rw [rlist_get, hq] at hrun
          exact ⟨(D k, q), hrun⟩)
        have HLN : Hid (∀ wr, Turn (fun _ => False) w1 wr → (Instr.lookup 61 (.map (some nm)) (.int .i64 K) true).run Tryz.prog wr = .ok (.tuple #[.agg #[.map none, .bool false, .string ⟨#[]⟩, .int .i64 0], .bool false]) wr) := hid (fun wr tr => by
          have hrun := (H1.out.turned tr (fun _ _ => id)).mp.run_lookup (P := Tryz.prog) keyI Tryz.underlying61 Tryz.underlying3 (zeroRNode wr) (K : Int) true
          rw [rlist_get, fnone] at hrun
          exact hrun)
        have HLen : Hid (T.length < 60) := hid (by omega)
        have HE := hid hE
        have HH : Hid (∀ wr, Turn (fun _ => False) w1 wr → wr.cell? ⟨rb, 0, none⟩ = some (.map (some nm))) := hid (fun wr tr => (H1.out.turned tr (fun _ _ => id)).hdr)
        clear h1 hds hms t1 hpl hd hdir hfull hK hT fnone fall hE
        go_wp2_with fail
        go_loopg [13] K (fun gl i wr => ∃ k : Nat, k + gl = K ∧ i = .int .i64 k ∧ Turn (fun _ => False) w1 wr)
        case atStart => exact ⟨0, by omega, rfl, Turn.refl _ _⟩
        case round =>
          obtain ⟨k, hk, rfl, tr⟩ := hrel
          have HTr := hid tr
          have hhr := HH.out _ tr
          clear hh hl
          by_cases hkl : k < K
          · obtain ⟨⟨v, q⟩, lk⟩ := HLk.out _ tr k hkl
            unfold rnodeV at lk
            generalize (if (v, q).2.isDir = true then some (v, q).1 else none) = o at lk
            generalize (v, q).2.isDir = bq at lk
            clear tr
            go_wp2_with fail
            go_roundg (gk - 1)
            case measure => omega
            case rel => exact ⟨k + 1, by omega, by go_num, HTr.out.alloc _⟩
          · obtain rfl : k = K := by omega
            have lk := HLN.out _ tr
            clear hkl hk HLk tr HLN
            have hsA : (wr.alloc (.cells #[.map none, .bool false, .string ⟨#[]⟩, .int .i64 0] 179)).heap.size = wr.heap.size + 1 := World.size_alloc _ _
            cases b with
            | false =>
              obtain ⟨W, hW⟩ : ∃ W, ((wr.alloc (.cells #[.map none, .bool false, .string ⟨#[]⟩, .int .i64 0] 179)).alloc (.cells #[.map none, .bool false, .string ⟨#[]⟩, .int .i64 0] 179)) = W := ⟨_, rfl⟩
              have tW : Turn (fun _ => False) w1 W := by rw [← hW]; exact (HTr.out.alloc _).alloc _
              have hhW := HH.out W tW
              have c0 : W.cell? ⟨wr.heap.size + 1, 0, none⟩ = some (.map none) := by rw [← hW, ← hsA]; exact World.cell?_alloc_new _ _ _ _
              have c1 : W.cell? ⟨wr.heap.size + 1, 1, none⟩ = some (.bool false) := by rw [← hW, ← hsA]; exact World.cell?_alloc_new _ _ _ _
              have c2 : W.cell? ⟨wr.heap.size + 1, 2, none⟩ = some (.string ⟨#[]⟩) := by rw [← hW, ← hsA]; exact World.cell?_alloc_new _ _ _ _
              have c3 : W.cell? ⟨wr.heap.size + 1, 3, none⟩ = some (.int .i64 0) := by rw [← hW, ← hsA]; exact World.cell?_alloc_new _ _ _ _
              obtain ⟨w3, w4, hrun3, hrun4, hto⟩ := rmake_fin (dn := 0) H1.out HOk.out path HD.out HDr.out HF1.out HF60.out HFn.out HLen.out HMs.out false HT.out tW.drew (fun e => by cases e)
              replace hrun3 : (Instr.mapUpdate 61 (.map (some nm)) (.int .i64 k) (.agg #[.map none, .bool false, .string ⟨#[]⟩, .int .i64 0])).run Tryz.prog W.drew = .ok () w3 := hrun3
              have HTo := hid hto
              have HTW := hid tW
              rw [← hW] at hhW c0 c1 c2 c3 hrun3
              clear hto tW hW hsA
              go_wp2_with fail
              go_region
              all_goals go_wp2_with fail
              all_goals go_returns
              all_goals rw [makeK_ok HE.out, HE.out, HK.out]
              all_goals exact ⟨rfl, (RTreeTo.after HT1.out HTo.out)⟩
            | true =>
              obtain ⟨W, hW⟩ : ∃ W, (((wr.alloc (.cells #[.map none, .bool false, .string ⟨#[]⟩, .int .i64 0] 179)).alloc (.cells #[.map (some (wr.heap.size + 1 + 1)), .bool true, .string ⟨#[]⟩, .int .i64 0] 179)).alloc (.map #[] 0)) = W := ⟨_, rfl⟩
              have tW : Turn (fun _ => False) w1 W := by rw [← hW]; exact ((HTr.out.alloc _).alloc _).alloc _
              have hhW := HH.out W tW
              obtain ⟨A, hA⟩ : ∃ A, (wr.alloc (.cells #[.map none, .bool false, .string ⟨#[]⟩, .int .i64 0] 179)) = A := ⟨_, rfl⟩
              have hsA2 : A.heap.size = wr.heap.size + 1 := by rw [← hA]; exact hsA
              obtain ⟨C, hC⟩ : ∃ C, A.alloc (.cells #[.map (some (wr.heap.size + 1 + 1)), .bool true, .string ⟨#[]⟩, .int .i64 0] 179) = C := ⟨_, rfl⟩
              have hsC : C.heap.size = wr.heap.size + 1 + 1 := by rw [← hC, World.size_alloc, hsA2]
              have hWC : W = C.alloc (.map #[] 0) := by rw [← hW, hA, hC]
              have tC : Turn (fun _ => False) C W := by rw [hWC]; exact (Turn.refl _ _).alloc _
              have hlt : wr.heap.size + 1 < C.heap.size := by omega
              have c0 : W.cell? ⟨wr.heap.size + 1, 0, none⟩ = some (.map (some (wr.heap.size + 1 + 1))) := (tC.cell (a := ⟨wr.heap.size + 1, 0, none⟩) hlt id).trans (by rw [← hC, ← hsA2]; exact World.cell?_alloc_new _ _ _ _)
              have c1 : W.cell? ⟨wr.heap.size + 1, 1, none⟩ = some (.bool true) := (tC.cell (a := ⟨wr.heap.size + 1, 1, none⟩) hlt id).trans (by rw [← hC, ← hsA2]; exact World.cell?_alloc_new _ _ _ _)
              have c2 : W.cell? ⟨wr.heap.size + 1, 2, none⟩ = some (.string ⟨#[]⟩) := (tC.cell (a := ⟨wr.heap.size + 1, 2, none⟩) hlt id).trans (by rw [← hC, ← hsA2]; exact World.cell?_alloc_new _ _ _ _)
              have c3 : W.cell? ⟨wr.heap.size + 1, 3, none⟩ = some (.int .i64 0) := (tC.cell (a := ⟨wr.heap.size + 1, 3, none⟩) hlt id).trans (by rw [← hC, ← hsA2]; exact World.cell?_alloc_new _ _ _ _)
              have hmW : MapIs W (wr.heap.size + 1 + 1) .string encS encI ([] : List (ByteArray × Int)) := by rw [hWC, ← hsC]; exact MapIs.made _
              have hsz1 := HTr.out.size
              obtain ⟨w3, w4, hrun3, hrun4, hto⟩ := rmake_fin (dn := wr.heap.size + 1 + 1) H1.out HOk.out path HD.out HDr.out HF1.out HF60.out HFn.out HLen.out HMs.out true HT.out tW.drew (fun _ => ⟨by omega, hmW.turned ((Turn.refl (fun _ => False) W).drew) id⟩)
              replace hrun3 : (Instr.mapUpdate 61 (.map (some nm)) (.int .i64 k) (.agg #[.map (some (wr.heap.size + 1 + 1)), .bool true, .string ⟨#[]⟩, .int .i64 0])).run Tryz.prog W.drew = .ok () w3 := hrun3
              have HTo := hid hto
              have HTW := hid tW
              rw [← hW] at hhW c0 c1 c2 c3 hrun3
              clear hto tW hWC tC hC hA hsA2 hsC hlt hmW hsz1 hsA hW
              go_wp2_with fail
              go_region
              all_goals go_wp2_with fail
              all_goals go_returns
              all_goals rw [makeK_ok HE.out, HE.out, HK.out]
              all_goals exact ⟨rfl, (RTreeTo.after HT1.out HTo.out)⟩
end
end Go.Proofs.YtiohpmcedfbcgacGreatDoor
