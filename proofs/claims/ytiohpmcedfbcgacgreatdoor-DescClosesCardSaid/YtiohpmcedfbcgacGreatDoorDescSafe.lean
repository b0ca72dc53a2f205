/- Package desc, plain: what each call keeps, all in one. No program in sight. Conditions: each theorem's own premises. -/
import Derived.Test.YtiohpmcedfbcgacGreatDoorDescJoint
import Derived.Test.YtiohpmcedfbcgacGreatDoorDescPipe
namespace Go.Proofs.YtiohpmcedfbcgacGreatDoor
open Go.RowKit
set_option linter.unusedVariables false
section
variable {S S' : PS} {T T' : PT} {e e' : PE} {k n : Int} {L L' : PTab} {ts : List (Nat × PTab)} {i j tab : Nat} {p q : PN} {path s : ByteArray}
/-! ### DOk -/
theorem put_len (he : mget S.es k = some e) : (putS S k e').es.length = S.es.length := by
  show (mput S.es k e').length = _
  rw [mput_length, he]; rfl
theorem dok_dup (h : DOk S) (hb : ∀ k e, mget S.es k = some e → e.refs < 999000) (L : PTab) (n : Int) : DOk (dupS S L n) := by
  unfold dupS
  split
  · cases hx : entL S L n with
    | none => exact h
    | some x => exact h.bump hb (entL_some hx).2
  · exact h
theorem dok_seek (h : DOk S) (L : PTab) (n at' : Int) : DOk (seekS S L n at') := by
  unfold seekS
  by_cases hE : seekE S L n at' = 0
  · rw [if_pos hE]
    cases hx : entL S L n with
    | none => exact h
    | some x =>
      obtain ⟨k, e⟩ := x
      have he := (entL_some hx).2
      have hEk := (h.ent k e he).1
      unfold seekE at hE
      rw [hx] at hE
      have hE : (if e.kind ≠ 1 then (6 : Int) else if at' < 0 ∨ 200 < at' then 2 else 0) = 0 := hE
      by_cases h1 : e.kind ≠ 1
      · rw [if_pos h1] at hE; cases hE
      · rw [if_neg h1] at hE
        by_cases h2 : at' < 0 ∨ 200 < at'
        · rw [if_pos h2] at hE; cases hE
        · exact h.put he rfl rfl rfl rfl ⟨hEk.1, hEk.2.1, by show 0 ≤ at'; omega, by show at' ≤ 200; omega⟩
  · rw [if_neg hE]; exact h
theorem read_at (hok : TOk T) {n at' many : Int} (h0 : 0 ≤ at') (h1 : at' ≤ 200) : at' + (readT T n at' many).size ≤ 200 := by
  unfold readT
  split
  · have hd : (dataT T n).size ≤ 200 := by
      unfold dataT
      cases hn : mget T n with
      | none => show (0 : Nat) ≤ 200; omega
      | some p => exact hok.data n p hn
    unfold readB
    rw [ByteArray.size_extract]
    omega
  · show at' + ((0 : Nat) : Int) ≤ 200; omega
theorem pRdQ_ok {q : PP} {many : Int} : (pRdQ q many).e0 = q.e0 ∧ (pRdQ q many).e1 = q.e1 ∧ (pRdQ q many).b.size ≤ q.b.size := by
  unfold pRdQ
  split
  · refine ⟨rfl, rfl, ?_⟩
    show (q.b.extract _ _).size ≤ _
    rw [ByteArray.size_extract]; omega
  · exact ⟨rfl, rfl, Nat.le_refl _⟩
theorem pWrQ_ok {q : PP} {s : ByteArray} (h : q.b.size ≤ 16) : (pWrQ q s).e0 = q.e0 ∧ (pWrQ q s).e1 = q.e1 ∧ (pWrQ q s).b.size ≤ 16 := by
  refine ⟨rfl, rfl, ?_⟩
  show (q.b ++ s.extract 0 (pWr q s)).size ≤ 16
  rw [ByteArray.size_append, ByteArray.size_extract]
  unfold pWr
  split <;> omega
theorem dok_rd (h : DOk S) (hok : TOk S.T) (L : PTab) (n many : Int) : DOk (rdS S L n many) ∧ (rdS S L n many).es.length = S.es.length ∧ (rdS S L n many).T = S.T := by
  unfold rdS
  cases hx : entL S L n with
  | none => exact ⟨h, rfl, rfl⟩
  | some x =>
    obtain ⟨k, e⟩ := x
    have he := (entL_some hx).2
    have hE := (h.ent k e he).1
    show DOk (if e.prot = 2 then S else if e.kind = 2 then (S.ps[e.pid]?).elim S fun q => pipeS S e.pid (pRdQ q many) else putS S k { e with at' := e.at' + (readT S.T e.node e.at' many).size }) ∧ (if e.prot = 2 then S else if e.kind = 2 then (S.ps[e.pid]?).elim S fun q => pipeS S e.pid (pRdQ q many) else putS S k { e with at' := e.at' + (readT S.T e.node e.at' many).size }).es.length = S.es.length ∧ (if e.prot = 2 then S else if e.kind = 2 then (S.ps[e.pid]?).elim S fun q => pipeS S e.pid (pRdQ q many) else putS S k { e with at' := e.at' + (readT S.T e.node e.at' many).size }).T = S.T
    split
    · exact ⟨h, rfl, rfl⟩
    · split
      · cases hq : S.ps[e.pid]? with
        | none => exact ⟨h, rfl, rfl⟩
        | some q => exact ⟨h.pipe hq pRdQ_ok.1 pRdQ_ok.2.1 (Nat.le_trans pRdQ_ok.2.2 (h.pipes _ q hq).1), rfl, rfl⟩
      · refine ⟨h.put he rfl rfl rfl rfl ⟨hE.1, hE.2.1, ?_, read_at hok hE.2.2.1 hE.2.2.2⟩, put_len he, rfl⟩
        show 0 ≤ e.at' + _
        have := hE.2.2.1
        omega
theorem same_put {d : PN} (hn : mget T n = some p) (h1 : d.isDir = p.isDir) (h2 : d.held = p.held) : Same T (mput T n d) := by
  refine ⟨fun m r hr hrd _ => ?_, fun m r hr => ?_⟩
  · rw [mget_mput]
    by_cases e : m = n
    · rw [e, hn] at hr
      cases hr
      exact ⟨d, if_pos e, by rw [h1]; exact hrd, h2⟩
    · exact ⟨r, by rw [if_neg e]; exact hr, hrd, rfl⟩
  · rw [mget_mput] at hr
    by_cases e : m = n
    · rw [if_pos e] at hr
      cases hr
      exact .inl ⟨p, by rw [e]; exact hn, h2⟩
    · rw [if_neg e] at hr
      exact .inl ⟨r, hr, rfl⟩
theorem write_same (T : PT) (n at' : Int) (s : ByteArray) : Same T (writeT T n at' s) := by
  unfold writeT
  split
  · unfold setDataT
    cases hn : mget T n with
    | none => exact Same.refl _
    | some p => exact same_put hn rfl rfl
  · exact Same.refl _
theorem dok_wr (h : DOk S) (hf : Flat S.T) (L : PTab) (n : Int) (s : ByteArray) (most : Int) : DOk (wrS S L n s most) ∧ (wrS S L n s most).es.length = S.es.length ∧ Flat (wrS S L n s most).T := by
  unfold wrS
  cases hx : entL S L n with
  | none => exact ⟨h, rfl, hf⟩
  | some x =>
    obtain ⟨k, e⟩ := x
    have he := (entL_some hx).2
    have hE := (h.ent k e he).1
    have hall : ∀ S2 : PS, S2 = (if e.prot = 1 then S else if e.kind = 3 then (S.ps[e.pid]?).elim S fun q => pipeS S e.pid (pWrQ q s) else if limB e s most = true then S else if writeE S.T e.node e.at' s = 0 then putS (treeS S (writeT S.T e.node e.at' s)) k { e with at' := e.at' + s.size } else S) → DOk S2 ∧ S2.es.length = S.es.length ∧ Flat S2.T := by
      rintro S2 rfl
      split
      · exact ⟨h, rfl, hf⟩
      · split
        · cases hq : S.ps[e.pid]? with
          | none => exact ⟨h, rfl, hf⟩
          | some q =>
            have h1 := pWrQ_ok (s := s) (h.pipes _ q hq).1
            exact ⟨h.pipe hq h1.1 h1.2.1 h1.2.2, rfl, hf⟩
        · split
          · exact ⟨h, rfl, hf⟩
          · split
            · rename_i hz
              have h2 := h.tree (write_same S.T e.node e.at' s)
              have h3 : 0 ≤ e.at' + (s.size : Int) ∧ e.at' + (s.size : Int) ≤ 200 := by
                unfold writeE at hz
                split at hz
                · rename_i hz2; exact absurd hz hz2
                · split at hz
                  · cases hz
                  · split at hz
                    · cases hz
                    · omega
              exact ⟨h2.put (S := treeS S (writeT S.T e.node e.at' s)) he rfl rfl rfl rfl ⟨hE.1, hE.2.1, h3.1, h3.2⟩, put_len (S := treeS S (writeT S.T e.node e.at' s)) he, hf.write _ _ _⟩
            · exact ⟨h, rfl, hf⟩
    exact hall _ rfl
/-! ### the tree -/
theorem flat_gone (hf : Flat S.T) (e : PE) : Flat (goneS S e).T := by
  unfold goneS
  split
  · exact hf.drop _
  · cases S.ps[e.pid]? <;> exact hf
theorem flat_close (hf : Flat S.T) (L : PTab) (n : Int) : Flat (closeS S L n).T := by
  unfold closeS
  cases hx : entL S L n with
  | none => exact hf
  | some x =>
    show Flat (if 1 < x.2.refs then putS S x.1 { x.2 with refs := x.2.refs - 1 } else goneS (delS S x.1) x.2).T
    split
    · exact hf
    · exact flat_gone (S := delS S x.1) hf x.2
theorem flat_dup2 (hf : Flat S.T) (L : PTab) (n m : Int) : Flat (dup2S S L n m).T := by
  unfold dup2S
  split
  · refine flat_close ?_ L m
    unfold bumpE
    cases entL S L n <;> exact hf
  · exact hf
theorem flat_dup (hf : Flat S.T) (L : PTab) (n : Int) : Flat (dupS S L n).T := by
  unfold dupS
  split
  · cases entL S L n <;> exact hf
  · exact hf
theorem flat_seek (hf : Flat S.T) (L : PTab) (n at' : Int) : Flat (seekS S L n at').T := by
  unfold seekS
  split
  · cases entL S L n <;> exact hf
  · exact hf
theorem flat_open (hf : Flat S.T) (hok : TOk S.T) (L : PTab) (path : ByteArray) (prot : Int) (makes : Bool) : Flat (openS S L path prot makes).T := by
  have h1 : Flat (fileH (fileN S.T path makes)) := by
    unfold fileH
    split
    · exact (hf.found hok path makes).hold _
    · exact hf.found hok path makes
  unfold openS
  split
  · exact hf
  · split
    · exact hf
    · split
      · exact h1
      · exact h1
theorem flat_pipe (hf : Flat S.T) (L : PTab) : Flat (pipedS S L).T := by
  unfold pipedS
  split
  · exact hf
  · exact hf
theorem flat_fork (hf : Flat S.T) (L : PTab) : ∀ (f i : Nat) (S : PS), Flat S.T → Flat (forkFrom L f i S).T
  | 0, _, S, h => h
  | f + 1, i, S, h => by
    refine flat_fork hf L f (i + 1) _ ?_
    split
    · unfold bumpS
      cases mget S.es ((L i).1 - 1) <;> exact h
    · exact h
/-! ### errors leave all as it was -/
theorem close_err (h : DOk S) {L : PTab} {n : Int} (hz : closeE S L n ≠ 0) : closeS S L n = S ∧ closeL S L n = L := by
  unfold closeE at hz
  cases hx : entL S L n with
  | none => unfold closeS closeL; rw [hx]; exact ⟨rfl, rfl⟩
  | some x =>
    obtain ⟨k, e⟩ := x
    rw [hx] at hz
    have hz : (if 1 < e.refs then (0 : Int) else if e.kind = 1 then dropE S.T e.node else 0) ≠ 0 := hz
    by_cases h1 : 1 < e.refs
    · rw [if_pos h1] at hz; exact absurd rfl hz
    · rw [if_neg h1] at hz
      by_cases h2 : e.kind = 1
      · rw [if_pos h2] at hz
        obtain ⟨p, hp, hd, _, hpos⟩ := h.heldPos (entL_some hx).2 h2
        exact absurd (by unfold dropE; rw [hp]; show (if p.isDir then (6 : Int) else if p.held = 0 then 10 else 0) = 0; rw [hd, if_neg (by simp), if_neg (by omega)]) hz
      · rw [if_neg h2] at hz; exact absurd rfl hz
theorem dup_err {L : PTab} {n : Int} (hz : dupE S L n ≠ 0) : dupS S L n = S ∧ dupL S L n = L := ⟨if_neg hz, if_neg hz⟩
theorem dup2_err {L : PTab} {n m : Int} (hz : dup2E S L n m ≠ 0) : dup2S S L n m = S ∧ dup2L S L n m = L := ⟨if_neg (fun h => hz h.1), if_neg (fun h => hz h.1)⟩
theorem pipe_err {L : PTab} (hz : pipeE S L ≠ 0) : pipedS S L = S ∧ pipedL S L = L := ⟨if_neg hz, if_neg hz⟩
theorem mark_err {L : PTab} {n : Int} {c : Bool} (hz : getE L n ≠ 0) : markL S L n c = L := by
  unfold getE at hz
  unfold markL entL
  cases hs : slotL L n with
  | none => rfl
  | some k => rw [hs] at hz; exact absurd rfl hz
theorem seek_len (L : PTab) (n at' : Int) : (seekS S L n at').es.length = S.es.length := by
  unfold seekS
  split
  · cases hx : entL S L n with
    | none => rfl
    | some x => exact put_len (entL_some hx).2
  · rfl
/-! ### how many are open -/
theorem sum_zero : ∀ l : List (Int × PE), (l.map fun _ => (0 : Nat)).sum = 0
  | [] => rfl
  | t :: l => by simp only [List.map_cons, List.sum_cons]; rw [sum_zero l]
theorem cnt_used : ∀ (f i : Nat) (es : List (Int × PE)), MNodup es → (∀ k e, mget es k = some e → 0 ≤ k) → ((es.map fun t => cntFrom L t.1 f i).sum ≤ usedFrom L f i)
  | 0, i, es, _, _ => by
    have : (es.map fun t => cntFrom L t.1 0 i) = es.map fun _ => 0 := rfl
    rw [this, sum_zero]
    exact Nat.zero_le _
  | f + 1, i, es, hn, hk => by
    have ih := cnt_used f (i + 1) es hn hk
    have h1 : (es.map fun t => cntFrom L t.1 (f + 1) i).sum = (es.map fun t => hitX (L i) t.1).sum + (es.map fun t => cntFrom L t.1 f (i + 1)).sum := by
      have : ∀ l : List (Int × PE), (l.map fun t => cntFrom L t.1 (f + 1) i).sum = (l.map fun t => hitX (L i) t.1).sum + (l.map fun t => cntFrom L t.1 f (i + 1)).sum := by
        intro l
        induction l with
        | nil => rfl
        | cons t l ih =>
          simp only [List.map_cons, List.sum_cons]
          rw [ih]
          show hitX (L i) t.1 + cntFrom L t.1 f (i + 1) + _ = _
          omega
      exact this es
    have h2 : (es.map fun t => hitX (L i) t.1).sum ≤ usX (L i) := by
      have : ∀ l : List (Int × PE), MNodup l → (∀ t ∈ l, 0 ≤ t.1) → (l.map fun t => hitX (L i) t.1).sum ≤ usX (L i) := by
        intro l
        induction l with
        | nil => intro _ _; exact Nat.zero_le _
        | cons t l ih =>
          intro hn hk
          have hn' : MNodup l := (List.nodup_cons.1 hn).2
          have ih := ih hn' (fun u hu => hk u (List.mem_cons_of_mem _ hu))
          simp only [List.map_cons, List.sum_cons]
          by_cases e : (L i).1 = t.1 + 1
          · have hz : (l.map fun u => hitX (L i) u.1).sum = 0 := by
              have : ∀ m : List (Int × PE), (∀ u ∈ m, u.1 ≠ t.1) → (m.map fun u => hitX (L i) u.1).sum = 0 := by
                intro m
                induction m with
                | nil => intro _; rfl
                | cons v m ih =>
                  intro hm
                  simp only [List.map_cons, List.sum_cons]
                  rw [ih (fun u hu => hm u (List.mem_cons_of_mem _ hu))]
                  have : hitX (L i) v.1 = 0 := if_neg (by have := hm v List.mem_cons_self; omega)
                  omega
              exact this l (fun u hu e2 => (List.nodup_cons.1 hn).1 (List.mem_map.2 ⟨u, hu, e2⟩))
            have h3 : hitX (L i) t.1 = 1 := if_pos e
            have h4 : usX (L i) = 1 := if_pos (by have := hk t List.mem_cons_self; omega)
            omega
          · have h3 : hitX (L i) t.1 = 0 := if_neg e
            omega
      exact this es hn (fun t ht => hk t.1 t.2 (mget_mem hn ht))
    have h3 : usedFrom L (f + 1) i = usX (L i) + usedFrom L f (i + 1) := rfl
    omega
theorem open_used (h : Joint S ts) (hS : DOk S) : S.es.length ≤ usedT ts := by
  have h1 : ∀ us : List (Nat × PTab), (S.es.map fun t => cntT t.1 us).sum ≤ usedT us := by
    intro us
    induction us with
    | nil =>
      have : (S.es.map fun t => cntT t.1 []) = S.es.map fun _ => 0 := rfl
      rw [this, sum_zero]
      exact Nat.zero_le _
    | cons u us ih =>
      have h2 : (S.es.map fun t => cntT t.1 (u :: us)).sum = (S.es.map fun t => cntL u.2 t.1).sum + (S.es.map fun t => cntT t.1 us).sum := by
        have : ∀ l : List (Int × PE), (l.map fun t => cntT t.1 (u :: us)).sum = (l.map fun t => cntL u.2 t.1).sum + (l.map fun t => cntT t.1 us).sum := by
          intro l
          induction l with
          | nil => rfl
          | cons t l ih =>
            simp only [List.map_cons, List.sum_cons]
            rw [ih]
            show cntL u.2 t.1 + cntT t.1 us + _ = _
            omega
        exact this S.es
      have h3 := cnt_used (L := u.2) 8 0 S.es hS.nd (fun k e he => (hS.keys k e he).1)
      have h4 : usedT (u :: us) = usedL u.2 + usedT us := rfl
      have h5 : (S.es.map fun t => cntL u.2 t.1).sum = (S.es.map fun t => cntFrom u.2 t.1 8 0).sum := rfl
      have h6 : usedL u.2 = usedFrom u.2 8 0 := rfl
      omega
  have h2 : S.es.length ≤ (S.es.map fun t => cntT t.1 ts).sum := by
    have : ∀ l : List (Int × PE), (∀ t ∈ l, 1 ≤ cntT t.1 ts) → l.length ≤ (l.map fun t => cntT t.1 ts).sum := by
      intro l
      induction l with
      | nil => intro _; exact Nat.le_refl _
      | cons t l ih =>
        intro hl
        simp only [List.map_cons, List.sum_cons, List.length_cons]
        have := hl t List.mem_cons_self
        have := ih (fun u hu => hl u (List.mem_cons_of_mem _ hu))
        omega
    refine this S.es (fun t ht => ?_)
    have he : mget S.es t.1 = some t.2 := mget_mem hS.nd ht
    have := h.refs hS he
    have := (hS.ent _ _ he).1.1
    omega
  exact Nat.le_trans h2 (h1 ts)
end
end Go.Proofs.YtiohpmcedfbcgacGreatDoor
