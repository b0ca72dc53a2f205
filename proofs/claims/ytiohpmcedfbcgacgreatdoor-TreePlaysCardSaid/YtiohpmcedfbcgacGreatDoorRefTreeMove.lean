/- The document's tree: Rename. Conditions: each theorem's own premises. -/
import Derived.Test.YtiohpmcedfbcgacGreatDoorRefTreeLink
import Derived.Test.YtiohpmcedfbcgacGreatDoorTreeHold
namespace Go.Proofs.YtiohpmcedfbcgacGreatDoor
open Go.RowKit
set_option linter.unusedVariables false
section
variable {w w' w1 w2 w3 : World} {rb nm b d : Nat} {T T1 T2 : PT} {D : Int → Nat} {p q : PN} {n k : Int}
set_option maxHeartbeats 4000000 in
set_option maxRecDepth 100000 in
theorem rrename_is (h : RTreeIn w rb nm T D) (hok : TOk T) (old path : ByteArray) (hs : old.size < 1000000) (hs2 : path.size < 1000000) :
    Calls Tryz.prog 103 #[.pointer (some ⟨rb, 0, none⟩), .string old, .string path] w fun e w' => e = .returned (.int .i64 (moveE T old path)) ∧ RTreeTo rb (RFoot rb nm T D) w w' (moveT T old path) := by
  have H := hid h
  have HOk := hid hok
  have HSame : Hid (moveE T old path ≠ 0 → ∀ w', Turn (fun _ => False) w w' → RTreeTo rb (RFoot rb nm T D) w w' (moveT T old path)) := hid (fun hz w' tt => by
    have : moveT T old path = T := if_neg hz
    rw [this]
    exact RTreeTo.same ⟨nm, D, H.out, rfl⟩ tt)
  have HP := hid (rplace_is h hok old (by omega))
  clear h hok
  go_enter Tryz.func103, Tryz.ntmps103
  go_wp2_with fail
  refine HP.out.mono ?_
  rintro e w1 ⟨⟨hz, rfl⟩ | ⟨d, p, s, hpl, hd, hdir, rfl⟩, t1⟩
  · have hE : moveE T old path = (placeT T old).1 := if_pos hz
    have hzn : ((placeT T old).1 != 0) = true := by simpa using hz
    have HR := hid (HSame.out (by rw [hE]; exact hz) w1 t1)
    have HE := hid hE
    generalize (placeT T old).1 = z at *
    clear hz hE t1
    go_wp2_with fail
    go_returns
    rw [HE.out]
    exact ⟨rfl, HR.out⟩
  · have h1 := H.out.turned t1 (fun _ _ => id)
    have hds : dsT T d = p.ds := by unfold dsT; rw [hd]; rfl
    have hdm := h1.dir d p hd hdir
    have ln := look_name hdm s
    have hE1 : moveE T old path = (mget p.ds s).elim 7 fun _ => if (placeT T path).1 ≠ 0 then (placeT T path).1 else if (mget (dsT T (placeT T path).2.1) (placeT T path).2.2).isSome then 9 else if preB path (old ++ ⟨#[47]⟩) then 6 else 0 := by
      unfold moveE
      rw [hpl, if_neg (by simp)]
      simp only
      rw [hds]
    have HT1 := hid t1
    have H1 := hid h1
    have HD := hid hd
    have HDr := hid hdir
    have HPl := hid hpl
    have HDs := hid hds
    have HE1 := hid hE1
    have HP2 := hid (rplace_is h1 HOk.out path (by omega))
    cases hms : mget p.ds s with
    | none =>
      rw [hms] at ln
      simp only [Option.getD_none, Option.isSome_none] at ln
      have hE : moveE T old path = 7 := by rw [hE1, hms]; rfl
      have HR := hid (HSame.out (by rw [hE]; decide) w1 t1)
      have HE := hid hE
      clear h1 hds hdm hms t1 hpl hd hdir hE hE1
      go_wp2_with fail
      go_returns
      rw [HE.out]
      exact ⟨rfl, HR.out⟩
    | some n =>
      rw [hms] at ln hE1
      simp only [Option.getD_some, Option.isSome_some] at ln
      have hE1 : moveE T old path = if (placeT T path).1 ≠ 0 then (placeT T path).1 else if (mget (dsT T (placeT T path).2.1) (placeT T path).2.2).isSome then 9 else if preB path (old ++ ⟨#[47]⟩) then 6 else 0 := hE1
      have HMs := hid hms
      clear h1 hds hdm hms t1 hpl hd hdir HE1
      have HE2 := hid hE1
      clear hE1
      go_wp2_with fail
      refine HP2.out.mono ?_
      rintro e w2 ⟨⟨hz, rfl⟩ | ⟨e2, q, s2, hpl2, hq, hqdir, rfl⟩, t2⟩
      · have hzn : ((placeT T path).1 != 0) = true := by simpa using hz
        have hE : moveE T old path = (placeT T path).1 := by rw [HE2.out, if_pos hz]
        have HR := hid (HSame.out (by rw [hE]; exact hz) w2 (HT1.out.trans t2))
        have HE := hid hE
        clear HE2
        generalize (placeT T path).1 = z at *
        clear hz hE t2
        go_wp2_with fail
        go_returns
        rw [HE.out]
        exact ⟨rfl, HR.out⟩
      · have h2 := H1.out.turned t2 (fun _ _ => id)
        have hdsq : dsT T e2 = q.ds := by unfold dsT; rw [hq]; rfl
        have ln2 := look_name (h2.dir e2 q hq hqdir) s2
        have hE3 : moveE T old path = if (mget q.ds s2).isSome then 9 else if preB path (old ++ ⟨#[47]⟩) then 6 else 0 := by
          rw [HE2.out, hpl2, if_neg (by simp)]
          simp only
          rw [hdsq]
        have HT2 := hid (HT1.out.trans t2)
        have H2 := hid h2
        cases hms2 : mget q.ds s2 with
        | some m =>
          rw [hms2] at ln2
          simp only [Option.getD_some, Option.isSome_some] at ln2
          have hE : moveE T old path = 9 := by rw [hE3, hms2]; rfl
          have HR := hid (HSame.out (by rw [hE]; decide) w2 HT2.out)
          have HE := hid hE
          clear h2 hdsq hms2 t2 hpl2 hq hqdir hE hE3
          go_wp2_with fail
          go_returns
          rw [HE.out]
          exact ⟨rfl, HR.out⟩
        | none =>
          rw [hms2] at ln2
          simp only [Option.getD_none, Option.isSome_none] at ln2
          have hE4 : moveE T old path = if preB path (old ++ ⟨#[47]⟩) then 6 else 0 := by rw [hE3, hms2]; rfl
          have hos : (old ++ (⟨#[47]⟩ : ByteArray)).size = old.size + 1 := ByteArray.size_append
          have HPr := hid (prefix_is path (old ++ ⟨#[47]⟩) w2 (by omega) (by omega))
          cases hpr : preB path (old ++ ⟨#[47]⟩) with
          | true =>
            rw [hpr] at hE4 HPr
            have hE : moveE T old path = 6 := hE4
            have HR := hid (HSame.out (by rw [hE]; decide) w2 HT2.out)
            have HE := hid hE
            clear h2 hdsq hms2 t2 hpl2 hq hqdir hE hE3 hE4 hpr hos
            go_wp2_with fail
            refine HPr.out.mono ?_
            rintro e w4 ⟨rfl, rfl⟩
            go_wp2_with fail
            go_returns
            rw [HE.out]
            exact ⟨rfl, HR.out⟩
          | false =>
            rw [hpr] at hE4 HPr
            have hE : moveE T old path = 0 := hE4
            have hd2 := HD.out
            have hdm2 := h2.dir d p hd2 HDr.out
            obtain ⟨w4, hrun, hm4, t4⟩ := hdm2.run_delete (P := Tryz.prog) (ty := 0) keyS Tryz.underlying166 Tryz.underlying9 s
            replace hrun : (Builtin.delete_ #[166, 9] 0 #[.map (some (D d)), .string s]).run Tryz.prog w2 = .ok (.tuple #[]) w4 := hrun
            have hin4 := h2.name HOk.out.nd hd2 HDr.out hm4 t4
            obtain ⟨q', hq', hq'd, hq's⟩ : ∃ q', mget (mput T d { p with ds := mdel p.ds s }) e2 = some q' ∧ q'.isDir = true ∧ mget q'.ds s2 = none := by
              rw [mget_mput]
              by_cases e : e2 = d
              · rw [if_pos e]
                refine ⟨_, rfl, HDr.out, ?_⟩
                rw [e, hd2] at hq
                cases hq
                show mget (mdel p.ds s) s2 = none
                rw [mget_mdel, hms2]; split <;> rfl
              · rw [if_neg e]
                exact ⟨q, hq, hqdir, hms2⟩
            have hdq4 := hin4.dir e2 q' hq' hq'd
            obtain ⟨w5, hrun5, hm5, t5⟩ := hdq4.run_update (P := Tryz.prog) keyS Tryz.underlying166 Tryz.underlying9 s2 n
            replace hrun5 : (Instr.mapUpdate 166 (.map (some (D e2))) (.string s2) (.int .i64 n)).run Tryz.prog w4 = .ok () w5 := hrun5
            have hin5 := hin4.name (mput_nodup HOk.out.nd d _) hq' hq'd hm5 t5
            have hT : moveT T old path = mput (mput T d { p with ds := mdel p.ds s }) e2 { q' with ds := mput q'.ds s2 n } := by
              unfold moveT
              rw [if_pos hE, HPl.out, hpl2]
              simp only
              rw [HDs.out, HMs.out, updN_is hd2]
              show updN (mput T d { p with ds := mdel p.ds s }) e2 _ = _
              rw [updN_is hq']
            have hfin : RTreeTo rb (RFoot rb nm T D) w w5 (moveT T old path) := by
              rw [hT]
              refine ⟨_, ⟨nm, D, hin5, rfl⟩, (HT2.out.mono (fun _ _ h => h.elim)).trans ((t4.mono (fun j _ e => .inr (.inr ⟨d, p, hd2, HDr.out, e⟩))).trans (t5.mono (fun j _ e => .inr (.inr ⟨e2, q, hq, hqdir, e⟩)))), fun k hk => .inl (rfoot_put (q' := { p with ds := mdel p.ds s }) hd2 rfl k (rfoot_put (q' := { q' with ds := mput q'.ds s2 n }) hq' rfl k hk)), fun v hv => hin5.hdr.trans (H.out.hdr.symm.trans hv)⟩
            have HE := hid hE
            have HFin := hid hfin
            clear h2 hdsq hms2 t2 hpl2 hq hqdir hE hE3 hE4 hpr hos hd2 hdm2 hm4 t4 hin4 hq' hq'd hq's hdq4 hm5 t5 hin5 hT hfin
            go_wp2_with fail
            refine HPr.out.mono ?_
            rintro e w6 ⟨rfl, rfl⟩
            go_wp2_with fail
            go_returns
            rw [HE.out]
            exact ⟨rfl, HFin.out⟩
end
end Go.Proofs.YtiohpmcedfbcgacGreatDoor
