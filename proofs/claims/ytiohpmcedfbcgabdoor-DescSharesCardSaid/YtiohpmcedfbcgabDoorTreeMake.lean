/- Package tree: New, make, Mkdir, Create. Conditions: each theorem's own premises. -/
import Derived.Test.YtiohpmcedfbcgabDoorTreeHold
namespace Go.Proofs.YtiohpmcedfbcgabDoor
open Go.RowKit
set_option linter.unusedVariables false

def leastT (T : PT) : Nat → Nat → Nat
  | 0, k => k
  | f + 1, k => if (mget T (k : Int)).isSome then leastT T f (k + 1) else k
/-- The least number from 1 on that no node has. -/
def freeT (T : PT) : Nat := leastT T 60 1
theorem leastT_spec (T : PT) : ∀ (f k : Nat), k ≤ leastT T f k ∧ leastT T f k ≤ k + f ∧ (∀ i : Nat, k ≤ i → i < leastT T f k → (mget T (i : Int)).isSome = true) ∧ (leastT T f k < k + f → mget T ((leastT T f k : Nat) : Int) = none)
  | 0, k => ⟨Nat.le_refl _, Nat.le_refl _, fun i h1 h2 => by unfold leastT at h2; omega, fun h => by unfold leastT at h; omega⟩
  | f + 1, k => by
    unfold leastT
    cases hk : mget T (k : Int) with
    | none =>
      simp only [Option.isSome_none, Bool.false_eq_true, if_false]
      exact ⟨Nat.le_refl _, by omega, fun i h1 h2 => by omega, fun _ => hk⟩
    | some p =>
      simp only [Option.isSome_some, if_true]
      obtain ⟨a, b, c, d⟩ := leastT_spec T f (k + 1)
      refine ⟨by omega, by omega, fun i h1 h2 => ?_, fun h => d (by omega)⟩
      by_cases e : i = k
      · rw [e, hk]; rfl
      · exact c i (by omega) h2
theorem keys_fillT : ∀ (k : Nat) (T : PT), MNodup T → (∀ i : Int, 0 ≤ i → i < k → (mget T i).isSome = true) → k ≤ T.length
  | 0, T, _, _ => Nat.zero_le _
  | k + 1, T, hn, h => by
    obtain ⟨v, hv⟩ := Option.isSome_iff_exists.1 (h (k : Int) (by omega) (by omega))
    have h1 := mdel_length hn hv
    have h2 := keys_fillT k (mdel T (k : Int)) (mdel_nodup hn _) (fun i h1 h2 => by
      rw [mget_mdel, if_neg (by omega)]
      exact h i h1 (by omega))
    omega
theorem freeT_spec {T : PT} (h : TOk T) (hl : T.length < 60) : 1 ≤ freeT T ∧ freeT T < 60 ∧ mget T (freeT T : Int) = none ∧ ∀ i : Nat, 1 ≤ i → i < freeT T → (mget T (i : Int)).isSome = true := by
  obtain ⟨a, b, c, d⟩ := leastT_spec T 60 1
  have hlt : freeT T < 60 := by
    rcases Nat.lt_or_ge (freeT T) 60 with h1 | h1
    · exact h1
    · have h2 := keys_fillT 60 T h.nd (fun i h3 h4 => by
        by_cases e : i = 0
        · obtain ⟨p0, hp0, _⟩ := h.root
          rw [e, hp0]; rfl
        · have h5 := c i.toNat (by omega) (by unfold freeT at h1; omega)
          rwa [show ((i.toNat : Nat) : Int) = i by omega] at h5)
      omega
  exact ⟨a, hlt, d (by unfold freeT at hlt; omega), c⟩
def updI (B : Int → Nat) (k : Int) (c : Nat) : Int → Nat := fun n => if n = k then c else B n
section
variable {w w' w1 w2 w3 : World} {tb nm b d c dn : Nat} {T T1 T2 : PT} {B D : Int → Nat} {F : Nat → Prop} {p p' nn : PN} {n k : Int}
theorem mput_newT (hk : mget T k = none) : mput T k p = T ++ [(k, p)] := by
  unfold mput
  rw [if_neg (by rw [hk]; simp)]
theorem keysB_new (hk : mget T k = none) : keysB (updI B k c) (mput T k nn) = mput (keysB B T) k c := by
  rw [mput_newT hk]
  have h1 : mget (keysB B T) k = none := by rw [keysB_get, hk]; rfl
  have h2 : mput (keysB B T) k c = keysB B T ++ [(k, c)] := by
    unfold mput
    rw [if_neg (by rw [h1]; simp)]
  rw [h2]
  unfold keysB
  rw [List.map_append]
  congr 1
  · refine List.map_congr_left fun t ht => ?_
    have hne : t.1 ≠ k := mget_none_iff.1 hk t ht
    unfold updI
    rw [if_neg hne]
  · show [(k, updI B k c k)] = [(k, c)]
    unfold updI
    rw [if_pos rfl]
theorem TreeIn.add (h : TreeIn w tb nm T B D) (hk : mget T k = none) (nd : NdAt w' c dn nn) (hm : MapIs w' nm (.int .i64) encI ptrV (mput (keysB B T) k c)) (t : Turn (fun j => j = nm ∨ j = c) w w')
    (hc : ¬ TrFoot tb nm T B D c) (hdn : nn.isDir = true → ¬ TrFoot tb nm T B D dn ∧ dn ≠ c) : TreeIn w' tb nm (mput T k nn) (updI B k c) (updI D k dn) := by
  have hget : ∀ m q, mget (mput T k nn) m = some q → (m = k ∧ q = nn ∧ updI B k c m = c ∧ updI D k dn m = dn) ∨ (m ≠ k ∧ mget T m = some q ∧ updI B k c m = B m ∧ updI D k dn m = D m) := fun m q hq => by
    rw [mget_mput] at hq
    by_cases e : m = k
    · rw [if_pos e] at hq; cases hq; exact .inl ⟨e, rfl, if_pos e, if_pos e⟩
    · rw [if_neg e] at hq; exact .inr ⟨e, hq, if_neg e, if_neg e⟩
  have hfb : ∀ m q, mget T m = some q → TrFoot tb nm T B D (B m) := fun m q hq => .inr (.inr ⟨m, q, hq, .inl rfl⟩)
  have hfd : ∀ m q, mget T m = some q → q.isDir = true → TrFoot tb nm T B D (D m) := fun m q hq e => .inr (.inr ⟨m, q, hq, .inr ⟨e, rfl⟩⟩)
  refine ⟨(t.cell (a := ⟨tb, 0, none⟩) (lt_of_cell h.hdr) (fun e => ?_)).trans h.hdr, by rw [keysB_new hk]; exact hm, fun m q hq => ?_, fun m m2 q r hq hr hne => ?_, fun m m2 q r hq hr h1 h2 hne => ?_, fun m m2 q r hq hr h1 => ?_, fun m q hq => ?_, h.ne⟩
  · rcases e with e | e
    · exact h.ne e
    · exact hc (e ▸ .inl rfl)
  · rcases hget m q hq with ⟨rfl, rfl, e1, e2⟩ | ⟨_, h2, e1, e2⟩
    · rw [e1, e2]; exact nd
    · rw [e1, e2]
      have ho := h.own m q h2
      exact (h.nd m q h2).turned t (fun e => e.elim ho.1.2 (fun e => hc (e ▸ hfb m q h2))) (fun hd e => e.elim (ho.2 hd).2 (fun e => hc (e ▸ hfd m q h2 hd)))
  · rcases hget m q hq with ⟨rfl, rfl, e1, _⟩ | ⟨_, h2, e1, _⟩ <;> rcases hget m2 r hr with ⟨rfl, rfl, e3, _⟩ | ⟨_, h4, e3, _⟩
    · exact absurd rfl hne
    · rw [e1, e3]; exact fun e => hc (e ▸ hfb m2 r h4)
    · rw [e1, e3]; exact fun e => hc (e ▸ hfb m q h2)
    · rw [e1, e3]; exact h.bb m m2 q r h2 h4 hne
  · rcases hget m q hq with ⟨rfl, rfl, _, e1⟩ | ⟨_, hq2, _, e1⟩ <;> rcases hget m2 r hr with ⟨rfl, rfl, _, e3⟩ | ⟨_, hr2, _, e3⟩
    · exact absurd rfl hne
    · rw [e1, e3]; exact fun e => (hdn h1).1 (e ▸ hfd m2 r hr2 h2)
    · rw [e1, e3]; exact fun e => (hdn h2).1 (e ▸ hfd m q hq2 h1)
    · rw [e1, e3]; exact h.dd m m2 q r hq2 hr2 h1 h2 hne
  · rcases hget m q hq with ⟨rfl, rfl, e1, _⟩ | ⟨_, hq2, e1, _⟩ <;> rcases hget m2 r hr with ⟨rfl, rfl, _, e3⟩ | ⟨_, hr2, _, e3⟩
    · rw [e1, e3]; exact fun e => (hdn h1).2 e.symm
    · rw [e1, e3]; exact fun e => hc (e ▸ hfd m2 r hr2 h1)
    · rw [e1, e3]; exact fun e => (hdn h1).1 (e ▸ hfb m q hq2)
    · rw [e1, e3]; exact h.bd m m2 q r hq2 hr2 h1
  · rcases hget m q hq with ⟨rfl, rfl, e1, e2⟩ | ⟨_, hq2, e1, e2⟩
    · rw [e1, e2]
      exact ⟨⟨fun e => hc (e ▸ .inl rfl), fun e => hc (e ▸ .inr (.inl rfl))⟩, fun hd => ⟨fun e => (hdn hd).1 (e ▸ .inl rfl), fun e => (hdn hd).1 (e ▸ .inr (.inl rfl))⟩⟩
    · rw [e1, e2]; exact h.own m q hq2
theorem foot_add (hk : mget T k = none) (j : Nat) (hj : TrFoot tb nm (mput T k nn) (updI B k c) (updI D k dn) j) : TrFoot tb nm T B D j ∨ j = c ∨ (nn.isDir = true ∧ j = dn) := by
  rcases hj with h | h | ⟨m, q, hq, h⟩
  · exact .inl (.inl h)
  · exact .inl (.inr (.inl h))
  · rw [mget_mput] at hq
    by_cases e : m = k
    · rw [if_pos e] at hq
      cases hq
      unfold updI at h
      rw [if_pos e, if_pos e] at h
      exact .inr h
    · rw [if_neg e] at hq
      unfold updI at h
      rw [if_neg e, if_neg e] at h
      exact .inl (.inr (.inr ⟨m, q, hq, h⟩))
theorem NdAt.setDs {ds' : List (ByteArray × Int)} (h : NdAt w b d p) (hd : p.isDir = true) (hm : MapIs w' d .string encS encI ds') (t : Turn (fun j => j = d) w w') (hne : b ≠ d) : NdAt w' b d { p with ds := ds' } :=
  ⟨(t.cell (a := ⟨b, 0, none⟩) h.lt hne).trans h.c0, (t.cell (a := ⟨b, 1, none⟩) h.lt hne).trans h.c1, (t.cell (a := ⟨b, 2, none⟩) h.lt hne).trans h.c2, (t.cell (a := ⟨b, 3, none⟩) h.lt hne).trans h.c3, fun i => (t.frozen (a := ⟨b, i, none⟩) h.lt hne).trans (h.fz i), fun _ => hm⟩
def dsT (T : PT) (n : Int) : List (ByteArray × Int) := (mget T n).elim [] (·.ds)
def makeE (T : PT) (path : ByteArray) : Int := if (placeT T path).1 ≠ 0 then (placeT T path).1 else if (mget (dsT T (placeT T path).2.1) (placeT T path).2.2).isSome then 9 else if 60 ≤ T.length then 12 else 0
def nameT (T : PT) (d : Int) (ds : List (ByteArray × Int)) : PT := (mget T d).elim T fun p => mput T d { p with ds := ds }
def newN (b : Bool) : PN := ⟨b, [], ByteArray.empty, 1, 0⟩
def makeT (T : PT) (path : ByteArray) (b : Bool) : PT :=
  if makeE T path = 0 then nameT (mput T (freeT T) (newN b)) (placeT T path).2.1 (mput (dsT T (placeT T path).2.1) (placeT T path).2.2 (freeT T)) else T
def makeK (T : PT) (path : ByteArray) : Int := if makeE T path = 0 then (freeT T : Int) else 0
theorem makeK_err {path : ByteArray} {z : Int} (h : makeE T path = z) (hz : z ≠ 0) : makeK T path = 0 := if_neg (by rw [h]; exact hz)
theorem makeK_ok {path : ByteArray} (h : makeE T path = 0) : makeK T path = freeT T := if_pos h
def MakeTo (tb c dn : Nat) (b : Bool) (F : Nat → Prop) (w w' : World) (T' : PT) : Prop :=
  ∃ F', TreeIs w' tb T' F' ∧ Turn (fun j => F j ∨ j = c) w w' ∧ ∀ j, F' j → F j ∨ j = c ∨ (b = true ∧ j = dn)
set_option maxHeartbeats 2000000 in
set_option maxRecDepth 100000 in
theorem make_is (h : TreeIs w tb T F) (path : ByteArray) (hs : path.size < 4294967281) (b : Bool) (nd : NdAt w c dn ⟨b, [], ByteArray.empty, 0, 0⟩) (hc : ¬ F c) (hdn : b = true → ¬ F dn ∧ dn ≠ c) :
    Calls Tryd.prog 137 #[.pointer (some ⟨tb, 0, none⟩), .string path, .pointer (some ⟨c, 0, none⟩)] w fun e w' => e = .returned (.tuple #[.int .i64 (makeK T path), TErr (makeE T path)]) ∧ MakeTo tb c dn b F w w' (makeT T path b) := by
  have HI := hid h
  obtain ⟨nm, B, D, hin, hok, rfl⟩ := h
  have H := hid hin
  have HOk := hid hok
  have HP := hid (place_is hin hok path hs)
  have ND := hid nd
  have HC := hid hc
  have HDn := hid hdn
  have HSame : Hid (makeE T path ≠ 0 → ∀ w', Turn (fun _ => False) w w' → MakeTo tb c dn b (TrFoot tb nm T B D) w w' (makeT T path b)) := hid (fun hz w' tt => by
    have : makeT T path b = T := if_neg hz
    rw [this]
    exact ⟨_, HI.out.turned tt (fun _ _ => id), tt.mono (fun _ _ h => h.elim), fun _ h => .inl h⟩)
  clear hin hok nd hc hdn HI
  go_enter Tryd.func137, Tryd.ntmps137
  go_wp2_with fail
  refine HP.out.mono ?_
  rintro e w1 ⟨⟨hz, rfl⟩ | ⟨d, p, s, hpl, hd, hdir, rfl⟩, t1⟩
  · have te := TErr_of hz
    have hE : makeE T path = (placeT T path).1 := if_pos hz
    have HR := HSame.out (by rw [hE]; exact hz) w1 t1
    have HR := hid HR
    have HZ := hid hz
    have HE := hid hE
    clear hz t1 hE
    go_wp2_with fail
    go_returns
    rw [makeK_err HE.out HZ.out, HE.out]
    exact ⟨by rw [te]; rfl, HR.out⟩
  · have h1 := H.out.turned t1 (fun _ _ => id)
    have H1 := hid h1
    have ln := look_name ((h1.nd d p hd).dir hdir) s
    have hh := h1.hdr
    have hds : dsT T d = p.ds := by unfold dsT; rw [hd]; rfl
    have HT1 := hid t1
    have HDr := hid hdir
    have HD := hid hd
    have HSn := hid (placeT_name hpl)
    cases hms : mget p.ds s with
    | some m =>
      have hE : makeE T path = 9 := by
        unfold makeE
        rw [hpl, if_neg (by simp)]
        simp only
        rw [hds, hms]; rfl
      have HR := hid (HSame.out (by rw [hE]; decide) w1 t1)
      rw [hms] at ln
      simp only [Option.getD_some, Option.isSome_some] at ln
      have HE := hid hE
      clear h1 hds hms t1 hpl hd hdir hE
      go_wp2_with fail
      go_returns
      rw [makeK_err HE.out (by decide), HE.out]
      exact ⟨rfl, HR.out⟩
    | none =>
      rw [hms] at ln
      simp only [Option.getD_none, Option.isSome_none] at ln
      have hl : ∀ ty, (Builtin.len_ #[205] ty #[.map (some nm)]).run Tryd.prog w1 = .ok (.int .i64 T.length) w1 := fun ty => by
        have h2 := h1.mp.run_len Tryd.underlying205 ty
        unfold keysB at h2
        rw [List.length_map] at h2
        exact h2
      have hsz := HOk.out.size
      by_cases hfull : 60 ≤ T.length
      · have hfull' : (60 : Int) ≤ T.length := by omega
        have hE : makeE T path = 12 := by
          unfold makeE
          rw [hpl, if_neg (by simp)]
          simp only
          rw [hds, hms, if_neg (by simp), if_pos hfull]
        have HR := hid (HSame.out (by rw [hE]; decide) w1 t1)
        have HE := hid hE
        clear h1 hds hms t1 hpl hd hdir hfull hE
        go_wp2_with fail
        go_returns
        rw [makeK_err HE.out (by decide), HE.out]
        exact ⟨rfl, HR.out⟩
      · have hfull' : ¬ (60 : Int) ≤ T.length := by omega
        have hE : makeE T path = 0 := by
          unfold makeE
          rw [hpl, if_neg (by simp)]
          simp only
          rw [hds, hms, if_neg (by simp), if_neg hfull]
        have hT : makeT T path b = nameT (mput T (freeT T) (newN b)) d (mput p.ds s (freeT T)) := by
          unfold makeT
          rw [if_pos hE, hpl]
          simp only
          rw [hds]
        obtain ⟨f1, f60, fnone, fall⟩ := freeT_spec HOk.out (by omega)
        obtain ⟨K, hK⟩ : ∃ K, freeT T = K := ⟨_, rfl⟩
        rw [hK] at f1 f60 fnone fall hT
        have HK := hid hK
        have HT := hid hT
        have HMs := hid hms
        have HFn := hid fnone
        have HFa := hid fall
        have HLk : Hid (∀ k : Nat, 1 ≤ k → k < K → ∃ b, (Instr.lookup 205 (.map (some nm)) (.int .i64 k) false).run Tryd.prog w1 = .ok (.pointer (some ⟨b, 0, none⟩)) w1) := hid (fun k h2 h3 => by
          obtain ⟨q, hq⟩ := Option.isSome_iff_exists.1 (fall k h2 h3)
          exact ⟨_, h1.look hq⟩)
        have lkK := h1.looknone fnone
        have HLen : Hid (T.length < 60) := hid (by omega)
        have HE := hid hE
        clear h1 hds hms t1 hpl hd hdir hfull hK hT fnone fall hE
        go_wp2_with fail
        go_loopg [13] (K - 1) (fun gl i wr => ∃ k : Nat, k + gl = K ∧ 1 ≤ k ∧ i = .int .i64 k ∧ wr = w1)
        case atStart => exact ⟨1, by omega, by omega, rfl, rfl⟩
        case round =>
          obtain ⟨k, hk, hk1, rfl, hwr⟩ := hrel
          subst wr
          by_cases hkl : k < K
          · obtain ⟨b', lk⟩ := HLk.out k hk1 hkl
            clear lkK
            go_wp2_with fail
            go_roundg (gk - 1)
            case measure => omega
            case rel => exact ⟨k + 1, by omega, by omega, by go_num, rfl⟩
          · obtain rfl : k = K := by omega
            clear hkl hk HLk
            have nd1 := ND.out.turned HT1.out id (fun _ => id)
            have c2 := nd1.c2
            have f2 := nd1.fz 2
            simp only at c2
            have hcn : c ≠ nm := fun e => HC.out (e ▸ .inr (.inl rfl))
            have hcd : c ≠ D d := fun e => HC.out (e ▸ .inr (.inr ⟨d, p, HD.out, .inr ⟨HDr.out, rfl⟩⟩))
            have t12 : Turn (fun j => j = c) w1 (w1.setCell ⟨c, 2, none⟩ (.int .i64 1)) := (Turn.refl _ _).setCell _ _ (fun _ => rfl)
            have nd2 := nd1.setNames (z := 1) (c := 1) (fun e => fun e2 => (HDn.out e).2 e2.symm) (by omega)
            obtain ⟨w3, hrun3, hm3, t3⟩ := (H1.out.mp.turned t12 (fun e => hcn e.symm)).run_update (P := Tryd.prog) keyI Tryd.underlying205 Tryd.underlying3 (k : Int) c
            replace hrun3 : (Instr.mapUpdate 205 (.map (some nm)) (.int .i64 k) (.pointer (some ⟨c, 0, none⟩))).run Tryd.prog (w1.setCell ⟨c, 2, none⟩ (.int .i64 1)) = .ok () w3 := hrun3
            have ho := H1.out.own d p HD.out
            have hnd : nm ≠ D d := fun e => (ho.2 HDr.out).2 e.symm
            have hdm := (((H1.out.nd d p HD.out).dir HDr.out).turned t12 (fun e => hcd e.symm)).turned t3 (fun e => hnd e.symm)
            obtain ⟨w4, hrun4, hm4, t4⟩ := hdm.run_update (P := Tryd.prog) keyS Tryd.underlying202 Tryd.underlying9 s (k : Int)
            replace hrun4 : (Instr.mapUpdate 202 (.map (some (D d))) (.string s) (.int .i64 k)).run Tryd.prog w3 = .ok () w4 := hrun4
            have hh2 := (t12.cell (a := ⟨tb, 0, none⟩) (lt_of_cell hh) (fun e => HC.out (e ▸ .inl rfl))).trans hh
            have hin3 : TreeIn w3 tb nm (mput T (k : Int) (newN b)) (updI B k c) (updI D k dn) := H1.out.add HFn.out (nd2.turned t3 hcn (fun e e2 => (HDn.out e).1 (e2 ▸ .inr (.inl rfl)))) hm3 ((t12.mono (fun _ _ h => .inr h)).trans (t3.mono (fun _ _ h => .inl h))) HC.out HDn.out
            have hdk : d ≠ (k : Int) := fun e => by have := HD.out; rw [e, HFn.out] at this; cases this
            have hd3 : mget (mput T (k : Int) (newN b)) d = some p := by rw [mget_mput, if_neg hdk]; exact HD.out
            have hBd : updI B k c d = B d := if_neg hdk
            have hDd : updI D k dn d = D d := if_neg hdk
            have hnd3 := hin3.nd d p hd3
            rw [hBd, hDd] at hnd3
            have hin4 : TreeIn w4 tb nm (mput (mput T (k : Int) (newN b)) d { p with ds := mput p.ds s (k : Int) }) (updI B k c) (updI D k dn) := hin3.put hd3 rfl (by rw [hBd, hDd]; exact hnd3.setDs HDr.out hm4 t4 (H1.out.apart HD.out HDr.out)) (by rw [hBd, hDd]; exact t4.mono (fun _ _ e => .inr ⟨HDr.out, e⟩))
            have hok4 := HOk.out.make_ HD.out HDr.out HFn.out ⟨by omega, by omega⟩ HLen.out HMs.out HSn.out b
            have hTT : makeT T path b = mput (mput T (k : Int) (newN b)) d { p with ds := mput p.ds s (k : Int) } := by
              rw [HT.out]
              unfold nameT
              rw [hd3]; rfl
            have hfin : MakeTo tb c dn b (TrFoot tb nm T B D) w w4 (makeT T path b) := by
              rw [hTT]
              refine ⟨_, ⟨nm, _, _, hin4, hok4, rfl⟩, (HT1.out.mono (fun _ _ h => h.elim)).trans (((t12.mono (fun _ _ h => .inr h)).trans (t3.mono (fun _ _ h => .inl (by rw [h]; exact .inr (.inl rfl))))).trans (t4.mono (fun _ _ h => .inl (by rw [h]; exact .inr (.inr ⟨d, p, HD.out, .inr ⟨HDr.out, rfl⟩⟩))))), fun j hj => ?_⟩
              rw [foot_put (p' := { p with ds := mput p.ds s (k : Int) }) hd3 rfl] at hj
              exact foot_add HFn.out j hj
            have HFin := hid hfin
            clear nd1 hcn hcd t12 nd2 hm3 t3 ho hnd hdm hm4 t4 hin3 hdk hd3 hBd hDd hnd3 hin4 hok4 hTT hfin
            go_wp2_with fail
            go_returns
            rw [makeK_ok HE.out, HE.out, HK.out]
            exact ⟨rfl, HFin.out⟩
end
end Go.Proofs.YtiohpmcedfbcgabDoor
