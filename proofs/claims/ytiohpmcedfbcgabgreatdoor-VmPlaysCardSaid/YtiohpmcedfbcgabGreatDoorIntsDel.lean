/- IndexFunc and DeleteFunc of package slices at ints, over a function value that only reads. Conditions: each theorem's own premises. -/
import Derived.Test.YtiohpmcedfbcgabGreatDoorInts
import Derived.Lib.SliceRun
import Derived.Shelf.Abstract
namespace Go.Proofs.YtiohpmcedfbcgabGreatDoor
open Go.RowKit
set_option linter.unusedVariables false

/-- The function value g over lb answers p in each world that parts from w in S alone. -/
def Reads1 (w : World) (S : Nat → Prop) (g : Nat) (lb : Array Value) (p : Int → Bool) : Prop :=
  ∀ (w1 : World) (x : Int), Turn S w w1 → Calls Tryz.prog g (#[.int .i64 x] ++ lb) w1 fun e w' => e = .returned (.bool (p x)) ∧ Turn (fun _ => False) w1 w'

theorem Reads1.after {w w1 : World} {S S' : Nat → Prop} {g : Nat} {lb : Array Value} {p : Int → Bool} (h : Reads1 w S g lb p) (t : Turn S w w1) (hs : ∀ k, S' k → S k) : Reads1 w1 S' g lb p :=
  fun w2 x t2 => h w2 x (t.trans (t2.mono fun k _ hk => hs k hk))

def FoundBy (xs : List Int) (p : Int → Bool) (w : World) (e : Ending) (w' : World) : Prop :=
  ∃ r : Int, e = .returned (.int .i64 r) ∧ Turn (fun _ => False) w w' ∧ ((r = -1 ∧ ∀ x ∈ xs, p x = false) ∨ ∃ (j : Nat) (x : Int), xs[j]? = some x ∧ p x = true ∧ r = j ∧ ∀ y ∈ xs.take j, p y = false)

set_option maxHeartbeats 2000000 in
theorem indexFunc_ints {w : World} {v : Value} {xs : List Int} (h : IntsAt w v xs) (hl : xs.length ≤ 1000000) (p : Int → Bool) (g : Nat) (lb : Array Value) (eg : ∀ args w, (callFunc g args).run Tryz.prog w = .ok (.enter g args) w)
    (hp : Reads1 w (fun _ => False) g lb p) :
    Calls Tryz.prog 261 #[v, .func (.func g) #[] lb] w (FoundBy xs p w) := by
  rcases h.shape with ⟨rfl, rfl⟩ | ⟨b, cap, rfl, _, _, _⟩
  · clear h hp
    go_enter Tryz.func261, Tryz.ntmps261
    go_wp2_with fail
    refine wp_loop_rounds 1 ?_
    rw [rounds_succ]
    go_wp2_with fail
    go_ret
    exact ⟨-1, rfl, Turn.refl _ _, .inl ⟨rfl, by simp⟩⟩
  · have H := hid h
    have HP := hid hp
    clear h hp
    go_enter Tryz.func261, Tryz.ntmps261
    go_wp2_with fail
    go_loopw [8] (fun i wr => ∃ j : Nat, j ≤ xs.length ∧ i = .int .i64 j ∧ (∀ y ∈ xs.take j, p y = false) ∧ Turn (fun _ => False) w wr) (fun i _ => xs.length - (intOf i).toNat)
    case atStart => exact ⟨0, Nat.zero_le _, rfl, by simp, Turn.refl _ _⟩
    case round =>
      obtain ⟨j, hj, rfl, hno, hT⟩ := hrel
      have HN := hid hno
      have HT := hid hT
      clear hno hT
      by_cases hlt : j < xs.length
      · obtain ⟨y, hy⟩ : ∃ y, xs[j]? = some y := ⟨_, List.getElem?_eq_getElem hlt⟩
        have hc := (H.out.turned HT.out (fun _ _ => id)).cell j y hy
        have HY := hid hy
        clear hy
        have hcall := HP.out wr y HT.out
        cases hq : p y with
        | true =>
          rw [hq] at hcall
          have HQ := hid hq
          clear hq
          have HC := hid hcall
          clear hcall
          go_wp2_with (go_at_fn g; refine HC.out.mono ?_; rintro e w' ⟨rfl, t1⟩)
          have HT1 := hid (HT.out.trans ‹_›)
          go_ret
          exact ⟨j, rfl, HT1.out, .inr ⟨j, y, HY.out, HQ.out, rfl, HN.out⟩⟩
        | false =>
          rw [hq] at hcall
          have HQ := hid hq
          clear hq
          have HC := hid hcall
          clear hcall
          go_wp2_with (go_at_fn g; refine HC.out.mono ?_; rintro e w' ⟨rfl, t1⟩)
          have HT1 := hid (HT.out.trans ‹_›)
          go_roundw
          case rel => exact ⟨j + 1, by omega, by go_num, by
            intro z hz
            rw [List.take_add_one, HY.out] at hz
            rcases List.mem_append.1 hz with hz | hz
            · exact HN.out z hz
            · simp at hz; rw [hz]; exact HQ.out, HT1.out⟩
          case measure => simp [intOf]; omega
      · have hj' : j = xs.length := by omega
        subst hj'
        rw [List.take_length] at HN
        go_wp2_with fail
        go_ret
        exact ⟨-1, rfl, HT.out, .inl ⟨rfl, HN.out⟩⟩

/-- What DeleteFunc hands back. -/
def DeletedBy (xs : List Int) (p : Int → Bool) (v : Value) (w : World) (e : Ending) (w' : World) : Prop :=
  ∃ v', e = .returned v' ∧ IntsAt w' v' (xs.filter fun x => !p x) ∧ v'.ownBlock = v.ownBlock ∧ Turn (fun k => v.ownBlock = some k) w w'

theorem filter_none {xs : List Int} {p : Int → Bool} (h : ∀ x ∈ xs, p x = false) : (xs.filter fun x => !p x) = xs := by
  rw [List.filter_eq_self]; intro x hx; rw [h x hx]; rfl
theorem take_more {xs : List Int} {j : Nat} {y : Int} (h : xs[j]? = some y) : xs.take (j + 1) = xs.take j ++ [y] := by rw [List.take_add_one, h]; rfl
theorem IntsAt.own {w : World} {g cap : Nat} {xs : List Int} (h : IntsAt w (.slice (some ⟨g, 0, none⟩) xs.length cap) xs) : ∃ cur, w.heap[g]? = some (.cells cur 3 (0, 0)) ∧ xs.length ≤ cap ∧ cap ≤ maxLen ∧ cur.size = cap ∧ cur.toList.take xs.length = xs.map (Value.int .i64) := by
  obtain ⟨_, ⟨h0, _⟩ | ⟨g', cap', cur, h0, _, hg, h1, h2, h3, h4⟩⟩ := h
  · cases h0
  · cases h0; exact ⟨cur, hg, h1, h2, by omega, by simpa using h4⟩
theorem IntsAt.prefix {w : World} {g cap : Nat} {ys : List Int} (h : IntsAt w (.slice (some ⟨g, 0, none⟩) ys.length cap) ys) (i : Nat) (hi : i ≤ ys.length) : IntsAt w (.slice (some ⟨g, 0, none⟩) (ys.take i).length cap) (ys.take i) := by
  obtain ⟨cur, hg, h1, h2, h3, h4⟩ := h.own
  refine ⟨by simp, .inr ⟨g, cap, cur, rfl, Nat.zero_le _, hg, by simp; omega, h2, by omega, ?_⟩⟩
  have := congrArg (List.take i) h4
  rw [List.take_take, Nat.min_eq_left hi] at this
  rw [List.map_take, ← this]
  congr 1
  simp; omega
theorem IntsAt.set {w : World} {g cap : Nat} {ys : List Int} (h : IntsAt w (.slice (some ⟨g, 0, none⟩) ys.length cap) ys) (i : Nat) (x : Int) : IntsAt (w.setCell ⟨g, i, none⟩ (.int .i64 x)) (.slice (some ⟨g, 0, none⟩) ys.length cap) (ys.set i x) := by
  have := (World.ownsRow.stored h i (.int .i64 x)).1
  unfold IntsAt
  rw [List.length_set, List.map_set]
  exact this

theorem IntsAt.cleared {w : World} {g cap : Nat} {ys : List Int} (h : IntsAt w (.slice (some ⟨g, 0, none⟩) ys.length cap) ys) (i : Nat) (zs : List Int) (hz : i + zs.length = ys.length) : IntsAt (w.setCells g i (zs.map (Value.int .i64))) (.slice (some ⟨g, 0, none⟩) ys.length cap) (ys.take i ++ zs) := by
  induction zs generalizing w ys i with
  | nil =>
    simp at hz; subst hz
    show IntsAt w _ _
    simpa using h
  | cons z zs ih =>
    have h1 := ih (w := w.setCell ⟨g, i, none⟩ (.int .i64 z)) (ys := ys.set i z) (by simpa using h.set i z) (i + 1) (by simp at hz ⊢; omega)
    simp only [List.length_set] at h1
    have e : (ys.set i z).take (i + 1) ++ zs = ys.take i ++ z :: zs := by
      have hi : i < ys.length := by simp at hz; omega
      rw [List.take_add_one, List.getElem?_set_self hi, List.take_set_of_le (Nat.le_refl _)]
      simp
    rw [e] at h1
    exact h1

theorem zeroI (w : World) : (zeroValue 3).run Tryz.prog w = .ok (.int .i64 0) w := by kernel_rfl

set_option maxHeartbeats 4000000 in
theorem deleteFunc_ints {w : World} {v : Value} {xs : List Int} (h : IntsAt w v xs) (hl : xs.length ≤ 1000000) (p : Int → Bool) (g : Nat) (lb : Array Value) (eg : ∀ args w, (callFunc g args).run Tryz.prog w = .ok (.enter g args) w)
    (hp : Reads1 w (fun k => v.ownBlock = some k) g lb p) :
    Calls Tryz.prog 208 #[v, .func (.func g) #[] lb] w (DeletedBy xs p v w) := by
  have hidx := indexFunc_ints h hl p g lb eg (fun w1 x t => hp w1 x (t.mono fun _ _ h => h.elim))
  have HI := hid hidx
  clear hidx
  rcases h.shape with ⟨rfl, rfl⟩ | ⟨b, cap, rfl, hc1, hc2, hb⟩
  · clear hp
    have H := hid h
    clear h
    go_enter Tryz.func208, Tryz.ntmps208
    go_wp2_with fail
    refine HI.out.mono ?_
    rintro e w1 ⟨r, rfl, t1, ⟨rfl, _⟩ | ⟨j, x, hj, _⟩⟩
    · have HT := hid t1
      clear t1
      go_wp2_with fail
      go_ret
      exact ⟨_, rfl, H.out.turned HT.out (fun g h => by cases h), rfl, HT.out.mono fun _ _ h => h.elim⟩
    · simp at hj
  · unfold maxLen at hc2
    have H := hid h
    have HP := hid hp
    clear h hp
    go_enter Tryz.func208, Tryz.ntmps208
    go_wp2_with fail
    refine HI.out.mono ?_
    rintro e w1 ⟨r, rfl, t1, ⟨rfl, hno⟩ | ⟨i0, x0, hx0, hp0, rfl, hno⟩⟩
    · have HT := hid t1
      have HN := hid hno
      clear t1 hno
      go_wp2_with fail
      go_ret
      exact ⟨_, rfl, by rw [filter_none HN.out]; exact H.out.turned HT.out (fun _ _ => id), rfl, HT.out.mono fun _ _ h => h.elim⟩
    · have hi0 : i0 < xs.length := (List.getElem?_eq_some_iff.1 hx0).1
      have HT := hid t1
      have HN := hid hno
      have HX := hid hx0
      have HP0 := hid hp0
      clear t1 hno hx0 hp0
      have q0 : ((i0 : Int) == -1) = false := beq_eq_false_iff_ne.2 (by omega)
      have q1 : ((i0 : Int) != -1) = true := bne_iff_ne.2 (by omega)
      go_wp2_with fail
      go_loopw [5, 6, 7] (fun i j _ wr => ∃ (n m : Nat) (ys : List Int), i = .int .i64 n ∧ j = .int .i64 ((m : Int) + 1) ∧ m < xs.length ∧ n ≤ m ∧ Hid (ys.length = xs.length) ∧ Hid (ys.take n = (xs.take (m + 1)).filter fun x => !p x) ∧ Hid (ys.drop (m + 1) = xs.drop (m + 1)) ∧ Hid (IntsAt wr (.slice (some ⟨b, 0, none⟩) ys.length cap) ys) ∧ Hid (Turn (fun k => k = b) w wr)) (fun _ j _ _ => xs.length - (intOf j).toNat)
      case atStart =>
        refine ⟨i0, i0, xs, rfl, rfl, hi0, Nat.le_refl _, hid rfl, hid ?_, hid rfl, hid (H.out.turned HT.out (fun _ _ => id)), hid (HT.out.mono fun _ _ h => h.elim)⟩
        rw [take_more HX.out, List.filter_append, filter_none HN.out, List.filter_cons_of_neg (by rw [HP0.out]; simp)]
        simp
      case round =>
        obtain ⟨n, m, ys, rfl, rfl, hm, hn, hy1, hy2, hy3, hy4, hT⟩ := hrel
        by_cases hlt : m + 1 < xs.length
        · obtain ⟨y, hy⟩ : ∃ y, xs[m + 1]? = some y := ⟨_, List.getElem?_eq_getElem hlt⟩
          have hyy : ys[m + 1]? = some y := by
            have e := congrArg List.head? hy3.out
            rw [List.head?_drop, List.head?_drop] at e
            rw [e, hy]
          have hc := hy4.out.cell (m + 1) y hyy
          obtain ⟨y', hy'⟩ : ∃ y', ys[n]? = some y' := ⟨_, List.getElem?_eq_getElem (by rw [hy1.out]; omega)⟩
          have hcn := hy4.out.cell n y' hy'
          have hfn := hy4.out.frozen n
          have HL : Hid (ys.length = xs.length) := hy1
          have HY := hid hy
          clear hyy hy'
          clear hy
          have hcall := HP.out wr y (hT.out.mono fun k _ e => by subst e; rfl)
          have q2 : ((m : Int) + 1).toNat = m + 1 := by omega
          have q3 : (m : Int) + 1 < (xs.length : Int) := by omega
          cases hq : p y with
          | true =>
            rw [hq] at hcall
            have HQ := hid hq
            clear hq
            have HC := hid hcall
            clear hcall
            go_wp2_with (go_at_fn g; refine HC.out.mono ?_; rintro e w' ⟨rfl, t1⟩)
            have HT1 := hid (‹Turn (fun _ => False) wr _›)
            go_roundw
            case rel =>
              refine ⟨n, m + 1, ys, rfl, by go_num, hlt, by omega, HL, hid ?_, hid ?_, hid (hy4.out.turned HT1.out (fun _ _ => id)), hid (hT.out.trans (HT1.out.mono fun _ _ h => h.elim))⟩
              · rw [take_more HY.out, List.filter_append, ← hy2.out, List.filter_cons_of_neg (by rw [HQ.out]; simp)]
                simp
              · have := congrArg (List.drop 1) hy3.out
                rw [List.drop_drop, List.drop_drop] at this
                exact this
            case measure => simp [intOf]; omega
          | false =>
            rw [hq] at hcall
            have HQ := hid hq
            clear hq
            have HC := hid hcall
            clear hcall
            go_wp2_with (go_at_fn g; refine HC.out.mono ?_; rintro e w' ⟨rfl, t1⟩; have hcn2 := (Turn.cell t1 (a := ⟨b, n, none⟩) (lt_of_cell hcn) id).trans hcn; have hfn2 := (Turn.frozen t1 (a := ⟨b, n, none⟩) (lt_of_cell hcn) id).trans hfn)
            have HT1 := hid (‹Turn (fun _ => False) wr _›)
            go_roundw
            case rel =>
              refine ⟨n + 1, m + 1, ys.set n y, by go_num, by go_num, hlt, by omega, hid (by rw [List.length_set]; exact HL.out), hid ?_, hid ?_, hid ?_, hid ((hT.out.trans (HT1.out.mono fun _ _ h => h.elim)).setCell _ _ (fun _ => rfl))⟩
              · have hny : n < ys.length := by rw [HL.out]; omega
                rw [take_more HY.out, List.filter_append, ← hy2.out, List.filter_cons_of_pos (by rw [HQ.out]; rfl), List.take_add_one, List.getElem?_set_self hny, List.take_set_of_le (Nat.le_refl _)]
                simp
              · have := congrArg (List.drop 1) hy3.out
                rw [List.drop_drop, List.drop_drop] at this
                rw [List.drop_set_of_lt (by omega)]
                exact this
              · have := (hy4.out.turned HT1.out (fun _ _ => id)).set n y
                rw [List.length_set]
                exact this
            case measure => simp [intOf]; omega
        · have hm' : m + 1 = xs.length := by omega
          have hN : n ≤ xs.length := by omega
          have HL : Hid (ys.length = xs.length) := hy1
          have hcl : ∀ ty, (Builtin.clear_ #[155] ty #[.slice (some ⟨b, n, none⟩) (xs.length - n) (cap - n)]).run Tryz.prog wr = .ok (.tuple #[]) (wr.setCells b n (List.replicate (xs.length - n) (.int .i64 0))) :=
            fun ty => Lib.run_clear_slice wr _ _ ty _ Tryz.underlying155 zeroI rfl rfl b n _ _ (by omega) (fun t ht => by
              obtain ⟨z, hz⟩ : ∃ z, ys[n + t]? = some z := ⟨_, List.getElem?_eq_getElem (by rw [HL.out]; omega)⟩
              rw [hy4.out.cell (n + t) z hz]; rfl) (fun t ht => hy4.out.frozen (n + t))
          have q3 : ¬ ((m : Int) + 1 < (xs.length : Int)) := by omega
          have HM := hid hm'
          clear hm'
          go_wp2_with fail
          go_ret
          have hz := hy4.out.cleared n (List.replicate (xs.length - n) 0) (by rw [List.length_replicate, HL.out]; omega)
          have hz2 : IntsAt (wr.setCells b n (List.replicate (xs.length - n) (.int .i64 0))) (.slice (some ⟨b, 0, none⟩) (ys.take n ++ List.replicate (xs.length - n) 0).length cap) (ys.take n ++ List.replicate (xs.length - n) 0) := by
            rw [List.map_replicate] at hz
            have e : (ys.take n ++ List.replicate (xs.length - n) 0).length = ys.length := by simp [HL.out]; omega
            rw [e]; exact hz
          have hz3 := hz2.prefix n (by simp [HL.out]; omega)
          have e1 : (ys.take n ++ List.replicate (xs.length - n) 0).take n = ys.take n := by
            rw [List.take_append_of_le_length (by simp [HL.out]; omega), List.take_take, Nat.min_self]
          have e2 : (ys.take n).length = n := by simp [HL.out]; omega
          rw [e1, e2] at hz3
          have e3 : xs.filter (fun x => !p x) = ys.take n := by rw [hy2.out, HM.out, List.take_length]
          exact ⟨_, rfl, by rw [e3]; exact hz3, rfl, (hT.out.mono fun k _ e => by subst e; rfl).setCells _ _ _ (fun _ => rfl)⟩
end Go.Proofs.YtiohpmcedfbcgabGreatDoor
