/- DescPlays, the run from every start: for every input the law returns true, and its arguments read behind the call as before. Condition: the row's own, that its listed variables are laid; the card ties them to the program's text. -/
import Derived.Test.YtncfmlifponjdaaGreatDoorRows
import Derived.Test.YtncfmlifponjdaaGreatDoorDescPair
import Derived.Test.YtncfmlifponjdaaGreatDoorLaw
import Derived.Test.YtncfmlifponjdaaGreatDoorTie
import Derived.Test.YtncfmlifponjdaaGreatDoorCards
import Derived.SevenTiedAt
import Derived.ChangeMaps5
namespace Go.Proofs.YtncfmlifponjdaaGreatDoor
set_option linter.unusedVariables false
set_option maxRecDepth 100000
section
open Go.ChangeShapes Go.WideShapes Go.ChangeAt Go.RowKit
theorem pick_lt {α:Type} [Inhabited α] {p:Nat→α→Prop} {n:Nat} (h:∀ i,i < n→∃ z,p i z):∃ g:Nat→α,∀ i,i < n→p i (g i):=by
 classical
 refine ⟨fun i => if hi:i < n then Classical.choose (h i hi) else default,fun i hi => ?_⟩
 show p i (if hi:i < n then Classical.choose (h i hi) else default)
 rw [dif_pos hi]
 exact Classical.choose_spec (h i hi)
theorem i64_bounds {z:Int} (h:(Lit.int .i64 z).wf=true):-9223372036854775808≤z∧z≤9223372036854775807:=by
 have h3:IntKind.i64.min=-9223372036854775808:=by decide
 have h4:IntKind.i64.max=9223372036854775807:=by decide
 simp [Lit.wf,h3,h4] at h
 exact ⟨by omega,by omega⟩
theorem fds_list {H:Type} {enc:TypeId×Value→H} {W:World} {fs:Array Field} {b off n:Nat} (h:StructsAt enc Tryz.prog W fs b off n) (hs:fs.size=6) (ht:∀ (j:Nat) (f:Field),fs[j]?=some f→if j < 4 then Tryz.prog.underlying f.type=some (.int .i64) else if j < 5 then Tryz.prog.underlying f.type=some .string else Tryz.prog.underlying f.type=some .bool) :
  ∃ xs:List XFd,xs.length=n∧FdsRow W b off xs:=by
 have geti:∀ i j,i < n→j < 4→∃ z:Int,W.cell? ⟨b,off+(i * fs.size+j),none⟩=some (.int .i64 z)∧(-9223372036854775808≤z∧z≤9223372036854775807):=by
  intro i j hi hj
  have hf:fs[j]?=some (fs[j]'(by omega)):=by simp
  obtain ⟨v,y,m,hc,hd⟩:=h i j _ hi hf
  have h1:=ht j _ hf
  rw [if_pos hj] at h1
  obtain ⟨z,hz,_,hw⟩:=DataW.trod_int h1 hd
  simp only [List.cons.injEq,and_true] at hz
  subst hz
  exact ⟨z,hc,i64_bounds hw⟩
 have gets:∀ i,i < n→∃ s:ByteArray,W.cell? ⟨b,off+(i * fs.size+4),none⟩=some (.string s):=by
  intro i hi
  have hf:fs[4]?=some (fs[4]'(by omega)):=by simp
  obtain ⟨v,y,m,hc,hd⟩:=h i 4 _ hi hf
  have h1:=ht 4 _ hf
  rw [if_neg (by omega),if_pos (by omega)] at h1
  obtain ⟨s,hz,_,hw⟩:=DataW.trod_string h1 hd
  simp only [List.cons.injEq,and_true] at hz
  subst hz
  exact ⟨s,hc⟩
 have getb:∀ i,i < n→∃ z:Bool,W.cell? ⟨b,off+(i * fs.size+5),none⟩=some (.bool z):=by
  intro i hi
  have hf:fs[5]?=some (fs[5]'(by omega)):=by simp
  obtain ⟨v,y,m,hc,hd⟩:=h i 5 _ hi hf
  have h1:=ht 5 _ hf
  rw [if_neg (by omega),if_neg (by omega)] at h1
  obtain ⟨z,hz,_⟩:=DataW.trod_bool h1 hd
  simp only [List.cons.injEq,and_true] at hz
  subst hz
  exact ⟨z,hc⟩
 obtain ⟨g0,h0⟩:=Go.Proofs.YtncfmlifponjdaaGreatDoor.pick_lt (fun i hi => geti i 0 hi (by omega))
 obtain ⟨g1,h1⟩:=Go.Proofs.YtncfmlifponjdaaGreatDoor.pick_lt (fun i hi => geti i 1 hi (by omega))
 obtain ⟨g2,h2⟩:=Go.Proofs.YtncfmlifponjdaaGreatDoor.pick_lt (fun i hi => geti i 2 hi (by omega))
 obtain ⟨g3,h3⟩:=Go.Proofs.YtncfmlifponjdaaGreatDoor.pick_lt (fun i hi => geti i 3 hi (by omega))
 obtain ⟨g4,h4⟩:=Go.Proofs.YtncfmlifponjdaaGreatDoor.pick_lt (fun i hi => gets i hi)
 obtain ⟨g5,h5⟩:=Go.Proofs.YtncfmlifponjdaaGreatDoor.pick_lt (fun i hi => getb i hi)
 refine ⟨(List.range n).map fun i => (g0 i,g1 i,g2 i,g3 i,g4 i,g5 i),by simp,?_⟩
 intro j x hx
 have hj:j < n:=by
  have:=(List.getElem?_eq_some_iff.1 hx).1
  simpa using this
 simp only [List.getElem?_map,List.getElem?_range hj,Option.map_some,Option.some.injEq] at hx
 subst hx
 rw [hs] at h0 h1 h2 h3 h4 h5
 exact ⟨(h0 j hj).1,(h1 j hj).1,(h2 j hj).1,(h3 j hj).1,h4 j hj,h5 j hj,(h3 j hj).2⟩
namespace DescPlays
theorem lifted (os:Os) (started:os.Started) (H:Type) (enc:TypeId×Value→H) :
  ReturnsInHanded {} Tryz.checked os 3 .any (fun w args => (Rows.descPlaysSpec.pre enc Tryz.prog Tryz.f3 [] false w args∧laidMetH Tryz.prog laidUtf w)∧sizedMet enc Tryz.prog Tryz.f3 (OpenSpec.ofChange Rows.descPlaysSpec) false w args)
   (Rows.descPlaysSpec.post enc Tryz.prog Tryz.f3 false true false false):=by
 refine returnsInHanded_of_change_and (C:=Tryz.checked) (X:=fun w _ => laidMetH Tryz.prog laidUtf w) (fun _ _ _ hh h => h.of_heap hh) own started (by kernel_rfl) Tryz.func3
  (ChangeSpec.witness_at (enc:=enc) (C:=Tryz.checked) (os:=os) (X:=fun w _ => laidMetH Tryz.prog laidUtf w) false (laidWorldU os) #[.slice none 0 0] 8 rfl (by kernel_rfl) (by kernel_rfl) (by kernel_rfl) (by kernel_rfl) (by kernel_rfl) (laidWorldU_met os _)) ?_
 intro W base args ds gs before hval0 hW _ _ hL _
 have hval:∀ (j:Nat) t v,Tryz.f3.params[j]?=some t→args[j]?=some v→Value.okWide Tryz.prog W .any base t v:=hval0
 have hW':=hW
 obtain ⟨p,q,hA0,hV,rfl,hfz,hnd⟩:=hW
 have hA:DataW.TrodAll enc Tryz.prog W 0 (fun _ => true) true Tryz.f3.params.toList args.toList ds p:=hA0
 rw [Tryz.params3] at hA hval
 obtain ⟨v0,vs0,d0,ds0,p0,q0,hargs,rfl,rfl,h0,r0⟩:=trodAll_cons hA
 obtain ⟨rfl,rfl,rfl⟩:=trodAll_nil r0
 obtain rfl:args=#[v0]:=by cases args; simp_all
 obtain ⟨rfl,rfl⟩:=trodVars_none hV
 have hm:maxLen=9223372036854775807:=rfl
 obtain ⟨a,n,cap,rfl,hn,hcase⟩:=open_structs Tryz.underlying22 Tryz.underlying50 (by kernel_rfl) (by kernel_rfl) (by decide) (hval 0 22 v0 rfl rfl) h0
 have fin:∀ e W',(e=Ending.returned (.bool true)∧Turn (fun _ => False) W W')→∃ v,e=.returned v∧Rows.descPlaysSpec.post enc Tryz.prog Tryz.f3 false true false false W #[.slice a n cap] v W':=by
  intro e W' ⟨he,hg⟩
  subst he
  exact ⟨_,rfl,law_post hW' rfl rfl rfl (by kernel_rfl) ((hg.mono (fun k hk h => h.elim)).below (Nat.le_refl _))⟩
 by_cases hbig:60 < n
 ·exact (dplays_many a n cap W hbig (by omega)).mono fin
 ·obtain ⟨xs,rfl,hxs⟩:∃ xs:List XFd,xs.length=n∧(xs≠[]→∃ b off,a=some ⟨b,off,none⟩∧FdsRow W b off xs∧b < W.heap.size):=by
   rcases hcase with rfl | ⟨b,off,rfl,hb,hst⟩
   ·exact ⟨[],rfl,fun h => absurd rfl h⟩
   ·obtain ⟨xs,rfl,hc⟩:=fds_list hst rfl (fun j f hf => by
     rcases j with _ | _ | _ | _ | _ | _ | j
     ·cases hf; exact Tryz.underlying3
     ·cases hf; exact Tryz.underlying3
     ·cases hf; exact Tryz.underlying3
     ·cases hf; exact Tryz.underlying3
     ·cases hf; exact Tryz.underlying9
     ·cases hf; exact Tryz.underlying4
     ·simp at hf)
    exact ⟨xs,rfl,fun _ => ⟨b,off,rfl,hc,hb⟩⟩
  exact (dplays_few a xs cap W (laidUtf_laid hL) (by omega) hxs).mono fin
end DescPlays
end
end Go.Proofs.YtncfmlifponjdaaGreatDoor
