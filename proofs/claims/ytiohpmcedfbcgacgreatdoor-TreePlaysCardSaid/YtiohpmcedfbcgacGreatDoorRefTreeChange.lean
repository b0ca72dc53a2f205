/- The document's tree: one node's change in memory. Conditions: each theorem's own premises. -/
import Derived.Test.YtiohpmcedfbcgacGreatDoorRefPlace
import Derived.Test.YtiohpmcedfbcgacGreatDoorTreeHold
namespace Go.Proofs.YtiohpmcedfbcgacGreatDoor
open Go.RowKit
set_option linter.unusedVariables false
def RTreeIs (w : World) (rb : Nat) (T : PT) (F : Nat → Prop) : Prop := ∃ nm D, RTreeIn w rb nm T D ∧ F = RFoot rb nm T D
def RTreeTo (rb : Nat) (F : Nat → Prop) (w w' : World) (T' : PT) : Prop := ∃ F', RTreeIs w' rb T' F' ∧ Turn F w w' ∧ (∀ k, F' k → F k ∨ w.heap.size ≤ k) ∧ ∀ v, w.cell? ⟨rb, 0, none⟩ = some v → w'.cell? ⟨rb, 0, none⟩ = some v
section
variable {w w' w1 w2 : World} {rb nm c dn : Nat} {T T1 T2 : PT} {D : Int → Nat} {F : Nat → Prop} {p q q' nn : PN} {n k : Int}
theorem RTreeIn.foot_lt (h : RTreeIn w rb nm T D) (k : Nat) (hk : RFoot rb nm T D k) : k < w.heap.size := by
  rcases hk with rfl | rfl | ⟨n, p, hp, hd, rfl⟩
  · exact lt_of_cell h.hdr
  · exact h.mp.lt
  · exact (h.dir n p hp hd).lt
theorem RTreeIs.foot_lt (h : RTreeIs w rb T F) (k : Nat) (hk : F k) : k < w.heap.size := by
  obtain ⟨nm, D, h1, rfl⟩ := h
  exact h1.foot_lt k hk
theorem RTreeIs.turned {S : Nat → Prop} (h : RTreeIs w rb T F) (t : Turn S w w') (hn : ∀ k, F k → ¬ S k) : RTreeIs w' rb T F := by
  obtain ⟨nm, D, h1, rfl⟩ := h
  exact ⟨nm, D, h1.turned t hn, rfl⟩
theorem RTreeTo.same (h : RTreeIs w rb T F) (t : Turn (fun _ => False) w w') : RTreeTo rb F w w' T := ⟨F, h.turned t (fun _ _ => id), t.mono (fun _ _ h => h.elim), fun _ h => .inl h, fun v hv => (t.cell (lt_of_cell hv) id).trans hv⟩
theorem MapIs.congr {κ β : Type} [DecidableEq κ] {b : Nat} {d : TypeDesc} {enc : κ → Value} {val : β → Value} {m m' : List (κ × β)} (h : MapIs w b d enc val m) (e : m'.map (fun p => (enc p.1, val p.2)) = m.map (fun p => (enc p.1, val p.2))) (hn : MNodup m') : MapIs w b d enc val m' := by
  obtain ⟨es, clock, hb, hs, hm⟩ := h.obj
  exact ⟨⟨es, clock, hb, hs, hm.trans e.symm⟩, hn⟩
theorem mupd_map {κ β γ : Type} [DecidableEq κ] (f : κ × β → γ) {m : List (κ × β)} {k : κ} {v v' : β} (hn : MNodup m) (hk : mget m k = some v) (h : f (k, v') = f (k, v)) : (mupd m k v').map f = m.map f := by
  unfold mupd
  rw [List.map_map]
  refine List.map_congr_left fun t ht => ?_
  show f (if t.1 = k then (t.1, v') else t) = f t
  by_cases e : t.1 = k
  · rw [if_pos e]
    have h1 : mget m t.1 = some t.2 := mget_mem hn ht
    rw [e, hk] at h1
    have h2 := Option.some.inj h1
    rw [e, h, h2, ← e]
  · rw [if_neg e]
theorem rlist_put (D : Int → Nat) (hn : mget T n = some q) : rlist D (mput T n q') = mput (rlist D T) n (D n, q') := by
  have h1 : mput T n q' = mupd T n q' := by unfold mput; rw [hn]; rfl
  have h2 : mput (rlist D T) n (D n, q') = mupd (rlist D T) n (D n, q') := by unfold mput; rw [rlist_get, hn]; rfl
  rw [h1, h2]
  unfold rlist mupd
  rw [List.map_map, List.map_map]
  refine List.map_congr_left fun t _ => ?_
  show ((if t.1 = n then (t.1, q') else t).1, (D (if t.1 = n then (t.1, q') else t).1, (if t.1 = n then (t.1, q') else t).2)) = (if t.1 = n then (t.1, (D n, q')) else (t.1, (D t.1, t.2)))
  by_cases e : t.1 = n
  · rw [if_pos e, if_pos e]; show (t.1, (D t.1, q')) = _; rw [e]
  · rw [if_neg e, if_neg e]
theorem rlist_del (D : Int → Nat) (T : PT) (n : Int) : rlist D (mdel T n) = mdel (rlist D T) n := by
  unfold rlist mdel
  rw [List.filter_map]
  rfl
theorem rlist_nodup (D : Int → Nat) (h : MNodup T) : MNodup (rlist D T) := by
  unfold MNodup rlist
  rw [List.map_map]
  exact h
theorem put_get (hn : mget T n = some q) : ∀ m r, mget (mput T n q') m = some r → (m = n ∧ r = q') ∨ (m ≠ n ∧ mget T m = some r) := fun m r hr => by
  rw [mget_mput] at hr
  by_cases e : m = n
  · rw [if_pos e] at hr; cases hr; exact .inl ⟨e, rfl⟩
  · rw [if_neg e] at hr; exact .inr ⟨e, hr⟩
/-- One node has another value, or other names; its map lies where it lay. -/
theorem RTreeIn.put (h : RTreeIn w rb nm T D) (hn : mget T n = some q) (hd : q'.isDir = q.isDir) (hm : MapIs w' nm (.int .i64) encI rnodeV (rlist D (mput T n q'))) (hdm : q.isDir = true → MapIs w' (D n) .string encS encI q'.ds) (t : Turn (fun k => k = nm ∨ (q.isDir = true ∧ k = D n)) w w') : RTreeIn w' rb nm (mput T n q') D := by
  have hget := put_get (q' := q') hn
  have hold : ∀ m r, mget (mput T n q') m = some r → ∃ r0, mget T m = some r0 ∧ r.isDir = r0.isDir := fun m r hr => by
    rcases hget m r hr with ⟨rfl, rfl⟩ | ⟨_, h2⟩
    · exact ⟨q, hn, hd⟩
    · exact ⟨r, h2, rfl⟩
  refine ⟨(t.cell (a := ⟨rb, 0, none⟩) (lt_of_cell h.hdr) (fun e => ?_)).trans h.hdr, hm, fun m r hr hrd => ?_, fun m k r s hr hs h1 h2 hne => ?_, fun m r hr hrd => ?_, h.ne⟩
  · rcases e with e | ⟨e1, e2⟩
    · exact h.ne e
    · exact (h.own n q hn e1).1 e2.symm
  · rcases hget m r hr with ⟨rfl, rfl⟩ | ⟨e, h2⟩
    · exact hdm (by rw [← hd]; exact hrd)
    · refine (h.dir m r h2 hrd).turned t (fun e2 => ?_)
      rcases e2 with e2 | ⟨e1, e2⟩
      · exact (h.own m r h2 hrd).2 e2
      · exact h.dd m n r q h2 hn hrd e1 e e2
  · obtain ⟨r0, a, e1⟩ := hold m r hr
    obtain ⟨s0, b, e2⟩ := hold k s hs
    exact h.dd m k r0 s0 a b (e1 ▸ h1) (e2 ▸ h2) hne
  · obtain ⟨r0, a, e1⟩ := hold m r hr
    exact h.own m r0 a (e1 ▸ hrd)
/-- A directory's names change. -/
theorem RTreeIn.name (h : RTreeIn w rb nm T D) (hok : MNodup T) (hn : mget T n = some p) (hd : p.isDir = true) {ds : List (ByteArray × Int)} (hm : MapIs w' (D n) .string encS encI ds) (t : Turn (fun k => k = D n) w w') : RTreeIn w' rb nm (mput T n { p with ds := ds }) D := by
  refine h.put hn rfl ?_ (fun _ => hm) (t.mono (fun k _ e => .inr ⟨hd, e⟩))
  have h1 := h.mp.turned t (fun e => (h.own n p hn hd).2 e.symm)
  refine h1.congr ?_ (rlist_nodup D (mput_nodup hok n _))
  rw [rlist_put D hn]
  have h2 : mput (rlist D T) n (D n, { p with ds := ds }) = mupd (rlist D T) n (D n, { p with ds := ds }) := by unfold mput; rw [rlist_get, hn]; rfl
  rw [h2]
  exact mupd_map (fun p : Int × (Nat × PN) => (encI p.1, rnodeV p.2)) (v := (D n, p)) (rlist_nodup D hok) (by rw [rlist_get, hn]; rfl) rfl
/-- How many names a node has is nothing that lies in memory. -/
theorem RTreeIn.count (h : RTreeIn w rb nm T D) (hok : MNodup T) (hn : mget T n = some q) (c : Nat) : RTreeIn w rb nm (mput T n { q with names := c }) D := by
  refine h.put hn rfl ?_ (fun hd => h.dir n q hn hd) (Turn.refl _ _)
  refine h.mp.congr ?_ (rlist_nodup D (mput_nodup hok n _))
  rw [rlist_put D hn]
  have h2 : mput (rlist D T) n (D n, { q with names := c }) = mupd (rlist D T) n (D n, { q with names := c }) := by unfold mput; rw [rlist_get, hn]; rfl
  rw [h2]
  exact mupd_map (fun p : Int × (Nat × PN) => (encI p.1, rnodeV p.2)) (v := (D n, q)) (rlist_nodup D hok) (by rw [rlist_get, hn]; rfl) rfl
/-- A node's value is stored anew. -/
theorem RTreeIn.store (h : RTreeIn w rb nm T D) (hn : mget T n = some q) (hd : q'.isDir = q.isDir) (hds : q'.ds = q.ds) (hm : MapIs w' nm (.int .i64) encI rnodeV (mput (rlist D T) n (D n, q'))) (t : Turn (fun k => k = nm) w w') : RTreeIn w' rb nm (mput T n q') D :=
  h.put hn hd (by rw [rlist_put D hn]; exact hm) (fun e => by rw [hds]; exact (h.dir n q hn e).turned t (h.own n q hn e).2) (t.mono (fun _ _ e => .inl e))
theorem RTreeIn.del (h : RTreeIn w rb nm T D) (hm : MapIs w' nm (.int .i64) encI rnodeV (mdel (rlist D T) n)) (t : Turn (fun k => k = nm) w w') : RTreeIn w' rb nm (mdel T n) D := by
  have hget : ∀ m r, mget (mdel T n) m = some r → mget T m = some r := fun m r hr => by
    rw [mget_mdel] at hr
    split at hr
    · cases hr
    · exact hr
  exact ⟨(t.cell (a := ⟨rb, 0, none⟩) (lt_of_cell h.hdr) h.ne).trans h.hdr, by rw [rlist_del]; exact hm, fun m r hr hd => (h.dir m r (hget m r hr) hd).turned t (h.own m r (hget m r hr) hd).2, fun m k r s hr hs => h.dd m k r s (hget m r hr) (hget k s hs), fun m r hr => h.own m r (hget m r hr), h.ne⟩
theorem rfoot_put (hn : mget T n = some q) (hd : q'.isDir = q.isDir) (k : Nat) (hk : RFoot rb nm (mput T n q') D k) : RFoot rb nm T D k := by
  rcases hk with h | h | ⟨m, r, hr, hrd, h⟩
  · exact .inl h
  · exact .inr (.inl h)
  · rcases put_get (q' := q') hn m r hr with ⟨rfl, rfl⟩ | ⟨_, h2⟩
    · exact .inr (.inr ⟨m, q, hn, by rw [← hd]; exact hrd, h⟩)
    · exact .inr (.inr ⟨m, r, h2, hrd, h⟩)
theorem rfoot_del (k : Nat) (hk : RFoot rb nm (mdel T n) D k) : RFoot rb nm T D k := by
  rcases hk with h | h | ⟨m, r, hr, hrd, h⟩
  · exact .inl h
  · exact .inr (.inl h)
  · rw [mget_mdel] at hr
    split at hr
    · cases hr
    · exact .inr (.inr ⟨m, r, hr, hrd, h⟩)
/-- A new node. -/
theorem RTreeIn.add (h : RTreeIn w rb nm T D) (hk : mget T k = none) (hm : MapIs w' nm (.int .i64) encI rnodeV (mput (rlist D T) k (dn, nn))) (hdm : nn.isDir = true → MapIs w' dn .string encS encI nn.ds) (t : Turn (fun j => j = nm) w w') (hdn : nn.isDir = true → ¬ RFoot rb nm T D dn) : RTreeIn w' rb nm (mput T k nn) (updI D k dn) := by
  have hget : ∀ m r, mget (mput T k nn) m = some r → (m = k ∧ r = nn) ∨ (m ≠ k ∧ mget T m = some r) := fun m r hr => by
    rw [mget_mput] at hr
    by_cases e : m = k
    · rw [if_pos e] at hr; cases hr; exact .inl ⟨e, rfl⟩
    · rw [if_neg e] at hr; exact .inr ⟨e, hr⟩
  have hl : rlist (updI D k dn) (mput T k nn) = mput (rlist D T) k (dn, nn) := by
    have h2 : mput (rlist D T) k (dn, nn) = rlist D T ++ [(k, (dn, nn))] := by unfold mput; rw [if_neg (by rw [rlist_get, hk]; simp)]
    rw [mput_newT hk, h2]
    unfold rlist
    rw [List.map_append]
    congr 1
    · refine List.map_congr_left fun u hu => ?_
      have : u.1 ≠ k := mget_none_iff.1 hk u hu
      show (u.1, (updI D k dn u.1, u.2)) = _
      unfold updI
      rw [if_neg this]
    · show [(k, (updI D k dn k, nn))] = _
      unfold updI
      rw [if_pos rfl]
  have hu : ∀ m, m ≠ k → updI D k dn m = D m := fun m e => if_neg e
  have huk : updI D k dn k = dn := if_pos rfl
  refine ⟨(t.cell (a := ⟨rb, 0, none⟩) (lt_of_cell h.hdr) h.ne).trans h.hdr, by rw [hl]; exact hm, fun m r hr hd => ?_, fun m j r s hr hs h1 h2 hne => ?_, fun m r hr hd => ?_, h.ne⟩
  · rcases hget m r hr with ⟨rfl, rfl⟩ | ⟨e, h2⟩
    · rw [huk]; exact hdm hd
    · rw [hu m e]; exact (h.dir m r h2 hd).turned t (h.own m r h2 hd).2
  · rcases hget m r hr with ⟨rfl, rfl⟩ | ⟨e1, a1⟩
    · rcases hget j s hs with ⟨rfl, rfl⟩ | ⟨e2, a2⟩
      · exact absurd rfl hne
      · rw [huk, hu j e2]
        exact fun e => hdn h1 (.inr (.inr ⟨j, s, a2, h2, e⟩))
    · rcases hget j s hs with ⟨rfl, rfl⟩ | ⟨e2, a2⟩
      · rw [huk, hu m e1]
        exact fun e => hdn h2 (.inr (.inr ⟨m, r, a1, h1, e.symm⟩))
      · rw [hu m e1, hu j e2]
        exact h.dd m j r s a1 a2 h1 h2 hne
  · rcases hget m r hr with ⟨rfl, rfl⟩ | ⟨e, h2⟩
    · rw [huk]
      exact ⟨fun e => hdn hd (.inl e), fun e => hdn hd (.inr (.inl e))⟩
    · rw [hu m e]; exact h.own m r h2 hd
end
end Go.Proofs.YtiohpmcedfbcgacGreatDoor
