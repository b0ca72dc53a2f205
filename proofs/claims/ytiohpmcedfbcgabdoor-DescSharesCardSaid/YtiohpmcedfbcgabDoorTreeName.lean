/- Package tree: Link, Unlink. Conditions: each theorem's own premises. -/
import Derived.Test.YtiohpmcedfbcgabDoorTreeMake
namespace Go.Proofs.YtiohpmcedfbcgabDoor
open Go.RowKit
set_option linter.unusedVariables false

section
variable {w w' w1 w2 w3 : World} {tb nm b d c dn : Nat} {T T1 T2 : PT} {B D : Int → Nat} {F : Nat → Prop} {p p' q nn : PN} {n k : Int} {s : ByteArray}
def updN (T : PT) (n : Int) (f : PN → PN) : PT := (mget T n).elim T fun p => mput T n (f p)
theorem updN_is (h : mget T n = some p) (f : PN → PN) : updN T n f = mput T n (f p) := by unfold updN; rw [h]; rfl
def linkE (T : PT) (old path : ByteArray) : Int :=
  if (findT T old).1 ≠ 0 then (findT T old).1 else if isDirT T (findT T old).2 then 6
  else if (placeT T path).1 ≠ 0 then (placeT T path).1 else if (mget (dsT T (placeT T path).2.1) (placeT T path).2.2).isSome then 9 else 0
def linkT (T : PT) (old path : ByteArray) : PT :=
  if linkE T old path = 0 then updN (updN T (placeT T path).2.1 fun p => { p with ds := mput p.ds (placeT T path).2.2 (findT T old).2 }) (findT T old).2 fun q => { q with names := q.names + 1 } else T
theorem findT_there (h : TOk T) {path : ByteArray} (hz : (findT T path).1 = 0) : ∃ q, mget T (findT T path).2 = some q := by
  unfold findT at *
  cases hn : namesOf path with
  | none => rw [hn] at hz; cases hz
  | some l =>
    rw [hn] at hz
    obtain ⟨p0, hp0, _⟩ := h.root
    exact walkT_there h l 0 p0 hp0 hz
/-- A directory's names change in memory. -/
theorem TreeIn.name (h : TreeIn w tb nm T B D) (hd : mget T k = some p) (hdir : p.isDir = true) {ds : List (ByteArray × Int)} (hm : MapIs w' (D k) .string encS encI ds) (t : Turn (fun j => j = D k) w w') : TreeIn w' tb nm (mput T k { p with ds := ds }) B D :=
  h.put hd rfl ((h.nd k p hd).setDs hdir hm t (h.apart hd hdir)) (t.mono (fun _ _ e => .inr ⟨hdir, e⟩))
/-- How many names lead to a node changes in memory. -/
theorem TreeIn.count (h : TreeIn w tb nm T B D) (hn : mget T n = some q) {z : Int} {c : Nat} (hz : z = c) : TreeIn (w.setCell ⟨B n, 2, none⟩ (.int .i64 z)) tb nm (mput T n { q with names := c }) B D :=
  h.put hn rfl ((h.nd n q hn).setNames (h.apart hn) hz) ((Turn.refl _ _).setCell _ _ (fun _ => .inl rfl))
theorem foot_name (hd : mget T k = some p) {ds : List (ByteArray × Int)} : TrFoot tb nm (mput T k { p with ds := ds }) B D = TrFoot tb nm T B D := foot_put hd rfl
theorem foot_count (hd : mget T k = some p) {c : Nat} : TrFoot tb nm (mput T k { p with names := c }) B D = TrFoot tb nm T B D := foot_put hd rfl
set_option maxHeartbeats 4000000 in
set_option maxRecDepth 100000 in
theorem link_is (h : TreeIs w tb T F) (old path : ByteArray) (hs1 : old.size < 4294967281) (hs2 : path.size < 4294967281) (hb : ∀ n p, mget T n = some p → p.names < 1000000) :
    Calls Tryd.prog 92 #[.pointer (some ⟨tb, 0, none⟩), .string old, .string path] w fun e w' => e = .returned (TErr (linkE T old path)) ∧ TreeTo tb F w w' (linkT T old path) := by
  have HI := hid h
  have HFd := hid (find_is h old hs1)
  have HB := hid hb
  have HSame : Hid (linkE T old path ≠ 0 → ∀ w', Turn (fun _ => False) w w' → TreeTo tb F w w' (linkT T old path)) := hid (fun hz w' tt => by
    have : linkT T old path = T := if_neg hz
    rw [this]
    exact TreeTo.same HI.out tt)
  clear h hb
  go_enter Tryd.func92, Tryd.ntmps92
  go_wp2_with fail
  refine HFd.out.mono ?_
  rintro e w1 ⟨rfl, t1⟩
  have HT1 := hid t1
  clear t1
  by_cases hz : (findT T old).1 = 0
  · obtain ⟨q, hq⟩ := findT_there HI.out.ok hz
    obtain ⟨n, hn⟩ : ∃ n, (findT T old).2 = n := ⟨_, rfl⟩
    rw [hn] at hq
    rw [hz, hn]
    have te : TErr 0 = .nilIface := rfl
    obtain ⟨nm, B, D, h1, hok, hF⟩ := HI.out.turned HT1.out (fun _ _ => id)
    have hh := h1.hdr
    have lk := h1.look hq
    have nd := h1.nd n q hq
    have c0 := nd.c0
    have mno := map_some_ne (D n) w1
    have myes := map_nil_ne w1
    have HOk := hid hok
    have H1 := hid h1
    have HF := hid hF
    have HFz := hid hz
    have HFn := hid hn
    have HQ := hid hq
    cases hqd : q.isDir with
    | true =>
      rw [hqd] at c0
      simp only [if_true] at c0
      have hE : linkE T old path = 6 := by
        unfold linkE
        rw [if_neg (by rw [hz]; simp), hn, if_pos (by unfold isDirT; rw [hq]; exact hqd)]
      have HR := hid (HSame.out (by rw [hE]; decide) w1 HT1.out)
      have HE := hid hE
      clear nd hqd hE h1 hok hF hz hn hq
      go_wp2_with fail
      go_returns
      rw [HE.out]
      exact ⟨rfl, HR.out⟩
    | false =>
      rw [hqd] at c0
      simp only [Bool.false_eq_true, if_false] at c0
      have HQd := hid hqd
      have HP := hid (place_is h1 hok path hs2)
      have hE0 : linkE T old path = if (placeT T path).1 ≠ 0 then (placeT T path).1 else if (mget (dsT T (placeT T path).2.1) (placeT T path).2.2).isSome then 9 else 0 := by
        unfold linkE
        rw [if_neg (by rw [hz]; simp), hn, if_neg (by unfold isDirT; rw [hq]; show ¬ q.isDir = true; rw [hqd]; decide)]
      have HE0 := hid hE0
      clear nd hqd hE0 h1 hok hF hz hn hq
      go_wp2_with fail
      refine HP.out.mono ?_
      rintro e w2 ⟨⟨hz, rfl⟩ | ⟨d, p, s, hpl, hd, hdir, rfl⟩, t2⟩
      · have te2 := TErr_of hz
        have hE : linkE T old path = (placeT T path).1 := by rw [HE0.out, if_pos hz]
        have HR := hid (HSame.out (by rw [hE]; exact hz) w2 (HT1.out.trans t2))
        have HE := hid hE
        clear hz t2 hE
        go_wp2_with fail
        go_returns
        rw [HE.out]
        exact ⟨congrArg Ending.returned te2.symm, HR.out⟩
      · have h2 := H1.out.turned t2 (fun _ _ => id)
        have H2 := hid h2
        have HT2 := hid (HT1.out.trans t2)
        have hds : dsT T d = p.ds := by unfold dsT; rw [hd]; rfl
        have hdm := (h2.nd d p hd).dir hdir
        have ln := look_name hdm s
        have hh2 := h2.hdr
        have lk2 := h2.look HQ.out
        have nd2 := h2.nd n q HQ.out
        have c2 := nd2.c2
        have f2 := nd2.fz 2
        have HD := hid hd
        have HDr := hid hdir
        cases hms : mget p.ds s with
        | some m =>
          have hE : linkE T old path = 9 := by
            rw [HE0.out, hpl, if_neg (by simp)]
            simp only
            rw [hds, hms]; rfl
          have HR := hid (HSame.out (by rw [hE]; decide) w2 HT2.out)
          rw [hms] at ln
          simp only [Option.getD_some, Option.isSome_some] at ln
          have HE := hid hE
          clear h2 hds hdm nd2 hms t2 hpl hd hdir hE
          go_wp2_with fail
          go_returns
          rw [HE.out]
          exact ⟨rfl, HR.out⟩
        | none =>
          rw [hms] at ln
          simp only [Option.getD_none, Option.isSome_none] at ln
          have hE : linkE T old path = 0 := by
            rw [HE0.out, hpl, if_neg (by simp)]
            simp only
            rw [hds, hms]; rfl
          have hne : n ≠ d := fun e => by have := HQ.out; rw [e, hd] at this; cases this; have := HQd.out; rw [hdir] at this; cases this
          have hT : linkT T old path = mput (mput T d { p with ds := mput p.ds s n }) n { q with names := q.names + 1 } := by
            unfold linkT
            rw [if_pos hE, hpl, HFn.out]
            simp only
            rw [updN_is hd, updN_is (p := q) (by rw [mget_mput, if_neg hne]; exact HQ.out)]
          obtain ⟨w3, hrun, hm3, t3⟩ := hdm.run_update (P := Tryd.prog) keyS Tryd.underlying202 Tryd.underlying9 s n
          replace hrun : (Instr.mapUpdate 202 (.map (some (D d))) (.string s) (.int .i64 n)).run Tryd.prog w2 = .ok () w3 := hrun
          have hin3 := h2.name hd hdir hm3 t3
          have hq3 : mget (mput T d { p with ds := mput p.ds s n }) n = some q := by rw [mget_mput, if_neg hne]; exact HQ.out
          have hh3 := hin3.hdr
          have lk3 := hin3.look hq3
          have c23 := (hin3.nd n q hq3).c2
          have f23 := (hin3.nd n q hq3).fz 2
          have hlt := HB.out n q HQ.out
          have hwr : wrap64 ((q.names : Int) + 1) = q.names + 1 := IntWalk.wrap64_in _ (by omega)
          have hin4 := hin3.count hq3 (z := (q.names : Int) + 1) (c := q.names + 1) (by omega)
          have hfin : TreeTo tb F w (w3.setCell ⟨B n, 2, none⟩ (.int .i64 ((q.names : Int) + 1))) (linkT T old path) := by
            rw [hT]
            refine ⟨_, ⟨nm, B, D, hin4, HOk.out.link_ hd hdir HQ.out HQd.out hms (placeT_name hpl), rfl⟩, (HT2.out.mono (fun _ _ h => h.elim)).trans ((t3.mono (fun j _ e => ?_)).trans ((Turn.refl _ _).setCell _ _ (fun _ => ?_))), fun j hj => .inl ?_⟩
            · rw [HF.out]; exact .inr (.inr ⟨d, p, hd, .inr ⟨hdir, e⟩⟩)
            · rw [HF.out]; exact .inr (.inr ⟨n, q, HQ.out, .inl rfl⟩)
            · rw [foot_count hq3, foot_name hd] at hj
              rw [HF.out]; exact hj
          have HFin := hid hfin
          have HE := hid hE
          clear h2 hds hdm nd2 hms t2 hpl hd hdir hE hne hT hm3 t3 hin3 hq3 hin4 hfin c2 f2 hh2 lk2
          go_wp2_with fail
          go_returns
          rw [HE.out]
          exact ⟨rfl, HFin.out⟩
  · have te := TErr_of hz
    have hE : linkE T old path = (findT T old).1 := if_pos hz
    have HR := hid (HSame.out (by rw [hE]; exact hz) w1 HT1.out)
    have HE := hid hE
    have HTe := hid te
    rw [te]
    clear hz hE te
    go_wp2_with fail
    go_returns
    rw [HE.out]
    exact ⟨congrArg Ending.returned HTe.out.symm, HR.out⟩
def unlinkE (T : PT) (path : ByteArray) : Int :=
  if (placeT T path).1 ≠ 0 then (placeT T path).1 else (mget (dsT T (placeT T path).2.1) (placeT T path).2.2).elim 7 fun n => if dsT T n ≠ [] then 6 else 0
def unlinkT (T : PT) (path : ByteArray) : PT :=
  if unlinkE T path = 0 then (mget (dsT T (placeT T path).2.1) (placeT T path).2.2).elim T fun n =>
    (mget T n).elim T fun q => goneT (mput (updN T (placeT T path).2.1 fun p => { p with ds := mdel p.ds (placeT T path).2.2 }) n { q with names := q.names - 1 }) n { q with names := q.names - 1 }
  else T
theorem len_nil_map (w : World) (ty : TypeId) : (Builtin.len_ #[202] ty #[.map none]).run Tryd.prog w = .ok (.int .i64 0) w := by kernel_rfl
set_option maxHeartbeats 4000000 in
set_option maxRecDepth 100000 in
theorem unlink_is (h : TreeIs w tb T F) (path : ByteArray) (hs : path.size < 4294967281) (hb : ∀ n p, mget T n = some p → p.names < 1000000 ∧ p.ds.length < 1000000) :
    Calls Tryd.prog 94 #[.pointer (some ⟨tb, 0, none⟩), .string path] w fun e w' => e = .returned (TErr (unlinkE T path)) ∧ TreeTo tb F w w' (unlinkT T path) := by
  have HI := hid h
  have HB := hid hb
  have HSame : Hid (unlinkE T path ≠ 0 → ∀ w', Turn (fun _ => False) w w' → TreeTo tb F w w' (unlinkT T path)) := hid (fun hz w' tt => by
    have : unlinkT T path = T := if_neg hz
    rw [this]
    exact TreeTo.same HI.out tt)
  obtain ⟨nm, B, D, h0, hok, hF⟩ := h
  have H := hid h0
  have HOk := hid hok
  have HF := hid hF
  have HP := hid (place_is h0 hok path hs)
  clear h0 hok hF hb
  go_enter Tryd.func94, Tryd.ntmps94
  go_wp2_with fail
  refine HP.out.mono ?_
  rintro e w1 ⟨⟨hz, rfl⟩ | ⟨d, p, s, hpl, hd, hdir, rfl⟩, t1⟩
  · have te := TErr_of hz
    have hE : unlinkE T path = (placeT T path).1 := if_pos hz
    have HR := hid (HSame.out (by rw [hE]; exact hz) w1 t1)
    have HE := hid hE
    clear hz hE t1
    go_wp2_with fail
    go_returns
    rw [HE.out]
    exact ⟨congrArg Ending.returned te.symm, HR.out⟩
  · have h1 := H.out.turned t1 (fun _ _ => id)
    have H1 := hid h1
    have HT1 := hid t1
    have hds : dsT T d = p.ds := by unfold dsT; rw [hd]; rfl
    have hdm := (h1.nd d p hd).dir hdir
    have ln := look_name hdm s
    have hh := h1.hdr
    have HD := hid hd
    have HDr := hid hdir
    have HPl := hid hpl
    have HDs := hid hds
    cases hms : mget p.ds s with
    | none =>
      rw [hms] at ln
      simp only [Option.getD_none, Option.isSome_none] at ln
      have hE : unlinkE T path = 7 := by
        unfold unlinkE
        rw [hpl, if_neg (by simp)]
        simp only
        rw [hds, hms]; rfl
      have HR := hid (HSame.out (by rw [hE]; decide) w1 t1)
      have HE := hid hE
      clear h1 hds hdm hms t1 hpl hd hdir hE
      go_wp2_with fail
      go_returns
      rw [HE.out]
      exact ⟨rfl, HR.out⟩
    | some n =>
      rw [hms] at ln
      simp only [Option.getD_some, Option.isSome_some] at ln
      obtain ⟨q, hq⟩ := HOk.out.link d p hd s n hms
      have lk := h1.look hq
      have nd := h1.nd n q hq
      have c0 := nd.c0
      have hdq : dsT T n = q.ds := by unfold dsT; rw [hq]; rfl
      have hbq := HB.out n q hq
      have hlen : ∃ m : Option Nat, w1.cell? ⟨B n, 0, none⟩ = some (.map m) ∧ ∀ ty, (Builtin.len_ #[202] ty #[.map m]).run Tryd.prog w1 = .ok (.int .i64 (q.ds.length : Int)) w1 := by
        cases hqd : q.isDir with
        | true =>
          rw [hqd] at c0
          exact ⟨_, c0, fun ty => (nd.dir hqd).run_len Tryd.underlying202 ty⟩
        | false =>
          rw [hqd] at c0
          exact ⟨_, c0, fun ty => by rw [HOk.out.file n q hq hqd]; exact len_nil_map w1 ty⟩
      obtain ⟨m, cm, hl⟩ := hlen
      have HQ := hid hq
      have HMs := hid hms
      have hE0 : unlinkE T path = if dsT T n ≠ [] then 6 else 0 := by
        unfold unlinkE
        rw [hpl, if_neg (by simp)]
        simp only
        rw [hds, hms]; rfl
      by_cases h0 : q.ds.length = 0
      · have hnil : q.ds = [] := List.length_eq_zero_iff.1 h0
        have hE : unlinkE T path = 0 := by rw [hE0, if_neg (by rw [hdq]; exact fun e => e hnil)]
        have hne : n ≠ d := fun e => by
          rw [e, hd] at hq
          cases hq
          rw [hnil] at hms
          cases hms
        have hT : unlinkT T path = goneT (mput (mput T d { p with ds := mdel p.ds s }) n { q with names := q.names - 1 }) n { q with names := q.names - 1 } := by
          unfold unlinkT
          rw [if_pos hE, hpl]
          simp only
          rw [hds, hms, updN_is hd]
          show (mget T n).elim T _ = _
          rw [hq]; rfl
        have hl0 : ∀ ty, (Builtin.len_ #[202] ty #[.map m]).run Tryd.prog w1 = .ok (.int .i64 0) w1 := fun ty => by rw [hl ty, h0]; rfl
        obtain ⟨w3, hrun, hm3, t3⟩ := hdm.run_delete (P := Tryd.prog) (ty := 0) keyS Tryd.underlying202 Tryd.underlying9 s
        replace hrun : (Builtin.delete_ #[202, 9] 0 #[.map (some (D d)), .string s]).run Tryd.prog w1 = .ok (.tuple #[]) w3 := hrun
        have hin3 := h1.name hd hdir hm3 t3
        have hq3 : mget (mput T d { p with ds := mdel p.ds s }) n = some q := by rw [mget_mput, if_neg hne]; exact hq
        have hh3 := hin3.hdr
        have lk3 := hin3.look hq3
        have c23 := (hin3.nd n q hq3).c2
        have f23 := (hin3.nd n q hq3).fz 2
        have hnm : 1 ≤ q.names := by
          have := HOk.out.named hd hms
          have := HOk.out.cnt n q hq
          omega
        have hwr : wrap64 ((q.names : Int) - 1) = q.names - 1 := IntWalk.wrap64_in _ (by omega)
        have hin4 := hin3.count hq3 (z := (q.names : Int) - 1) (c := q.names - 1) (by omega)
        have hok4 := HOk.out.unlink_ hd hdir hq hne hms
        have HG := hid (goes_is hin4 hok4 (n := n) (p := { q with names := q.names - 1 }) (by rw [mget_mput, if_pos rfl]) hnil)
        have htw : Turn F w (w3.setCell ⟨B n, 2, none⟩ (.int .i64 ((q.names : Int) - 1))) := by
          refine (HT1.out.mono (fun _ _ h => h.elim)).trans ((t3.mono (fun j _ e => ?_)).trans ((Turn.refl _ _).setCell _ _ (fun _ => ?_)))
          · rw [HF.out]; exact .inr (.inr ⟨d, p, hd, .inr ⟨hdir, e⟩⟩)
          · rw [HF.out]; exact .inr (.inr ⟨n, q, hq, .inl rfl⟩)
        have HTw := hid htw
        have HT := hid hT
        have HFt : Hid (∀ k, TrFoot tb nm (mput (mput T d { p with ds := mdel p.ds s }) n { q with names := q.names - 1 }) B D k → F k ∨ w.heap.size ≤ k) := hid (fun k hk => by
          rw [foot_count hq3, foot_name hd] at hk
          rw [HF.out]; exact .inl hk)
        have HE := hid hE
        clear h1 hds hdm nd hms t1 hpl hd hdir hE hE0 hne hT hm3 t3 hin3 hq3 hin4 hok4 htw c0 hdq hl h0 hnil hq hbq
        go_wp2_with fail
        refine HG.out.mono ?_
        rintro e w5 ⟨rfl, hto⟩
        have HTo := hid hto
        clear hto
        go_wp2_with fail
        go_returns
        rw [HE.out, HT.out]
        exact ⟨rfl, HTo.out.then_ HTw.out HFt.out⟩
      · have hE : unlinkE T path = 6 := by rw [hE0, if_pos (by rw [hdq]; exact fun e => h0 (by rw [e]; rfl))]
        have HR := hid (HSame.out (by rw [hE]; decide) w1 t1)
        have HE := hid hE
        have hpos : (0 : Int) < q.ds.length := by omega
        clear h1 hds hdm nd hms t1 hpl hd hdir hE hE0 c0 hdq h0 hq
        go_wp2_with fail
        go_returns
        rw [HE.out]
        exact ⟨rfl, HR.out⟩
end
end Go.Proofs.YtiohpmcedfbcgabDoor
