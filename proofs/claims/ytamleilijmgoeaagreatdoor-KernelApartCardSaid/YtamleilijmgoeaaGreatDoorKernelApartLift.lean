/- KernelApart, the run from every start: for every input the law returns true, and its arguments read behind the call as before. Condition: the row's own, that its listed variables are laid; the card ties them to the program's text. -/
import Derived.Test.YtamleilijmgoeaaGreatDoorRows
import Derived.Test.YtamleilijmgoeaaGreatDoorKernMemory
import Derived.Test.YtamleilijmgoeaaGreatDoorLaw
import Derived.Test.YtamleilijmgoeaaGreatDoorLaidNumU
import Derived.Test.YtamleilijmgoeaaGreatDoorTie
import Derived.Test.YtamleilijmgoeaaGreatDoorCards
import Derived.SevenTiedAt
namespace Go.Proofs.YtamleilijmgoeaaGreatDoor
set_option linter.unusedVariables false
set_option maxRecDepth 100000
section
open Go.ChangeShapes Go.WideShapes Go.ChangeAt Go.RowKit
namespace KernelApart
theorem lifted (os:Os) (started:os.Started) (H:Type) (enc:TypeId×Value→H) :
  ReturnsInHanded {} Tryz.checked os 9 .any (fun w args => (Rows.kernelApartSpec.pre enc Tryz.prog Tryz.f9 [] false w args∧laidMetH Tryz.prog laidNumU w)∧sizedMet enc Tryz.prog Tryz.f9 (OpenSpec.ofChange Rows.kernelApartSpec) false w args)
   (Rows.kernelApartSpec.post enc Tryz.prog Tryz.f9 false true false false):=by
 refine returnsInHanded_of_change_and (C:=Tryz.checked) (X:=fun w _ => laidMetH Tryz.prog laidNumU w) (fun _ _ _ hh h => h.of_heap hh) own started (by kernel_rfl) Tryz.func9
  (ChangeSpec.witness_at (enc:=enc) (C:=Tryz.checked) (os:=os) (X:=fun w _ => laidMetH Tryz.prog laidNumU w) false (laidWorldNU os) #[.int .i64 0,.slice none 0 0,.slice none 0 0,.int .i64 0] 8 rfl (by kernel_rfl) (by kernel_rfl) (by kernel_rfl) (by kernel_rfl) (by kernel_rfl) (laidWorldNU_met os _)) ?_
 intro W base args ds gs before hval0 hW _ _ hL _
 have hval:∀ (j:Nat) t v,Tryz.f9.params[j]?=some t→args[j]?=some v→Value.okWide Tryz.prog W .any base t v:=hval0
 have hW':=hW
 obtain ⟨p,q,hA0,hV,rfl,hfz,hnd⟩:=hW
 have hA:DataW.TrodAll enc Tryz.prog W 0 (fun _ => true) true Tryz.f9.params.toList args.toList ds p:=hA0
 rw [Tryz.params9] at hA hval
 obtain ⟨v0,vs0,d0,ds0,p0,q0,hargs,rfl,rfl,h0,r0⟩:=trodAll_cons hA
 obtain ⟨v1,vs1,d1,ds1,p1,q1,rfl,rfl,rfl,h1,r1⟩:=trodAll_cons r0
 obtain ⟨v2,vs2,d2,ds2,p2,q2,rfl,rfl,rfl,h2,r2⟩:=trodAll_cons r1
 obtain ⟨v3,vs3,d3,ds3,p3,q3,rfl,rfl,rfl,h3,r3⟩:=trodAll_cons r2
 obtain ⟨rfl,rfl,rfl⟩:=trodAll_nil r3
 obtain rfl:args=#[v0,v1,v2,v3]:=by cases args; simp_all
 obtain ⟨rfl,rfl⟩:=trodVars_none hV
 have hm:maxLen=9223372036854775807:=rfl
 obtain ⟨z0,rfl,rfl,rfl,wz0⟩:=open_int Tryz.underlying3 (hval 0 3 v0 rfl rfl) h0
 obtain ⟨a1,n1,cap1,rfl,hn1,hcase1⟩:=open_structs Tryz.underlying43 Tryz.underlying47 (by kernel_rfl) (by kernel_rfl) (by decide) (hval 1 43 v1 rfl rfl) h1
 obtain ⟨a2,n2,cap2,rfl,hn2,hcase2⟩:=open_structs Tryz.underlying43 Tryz.underlying47 (by kernel_rfl) (by kernel_rfl) (by decide) (hval 2 43 v2 rfl rfl) h2
 obtain ⟨z3,rfl,rfl,rfl,wz3⟩:=open_int Tryz.underlying3 (hval 3 3 v3 rfl rfl) h3
 have fin:∀ e W',(e=Ending.returned (.bool true)∧Turn (fun _ => False) W W')→∃ v,e=.returned v∧Rows.kernelApartSpec.post enc Tryz.prog Tryz.f9 false true false false W #[.int .i64 z0,.slice a1 n1 cap1,.slice a2 n2 cap2,.int .i64 z3] v W':=by
  intro e W' ⟨he,hg⟩
  subst he
  exact ⟨_,rfl,law_post hW' rfl rfl rfl (by kernel_rfl) ((hg.mono (fun k hk h => h.elim)).below (Nat.le_refl _))⟩
 by_cases hbig:40 < n1
 ·exact (kernelApart_many z0 a1 n1 cap1 a2 n2 cap2 z3 W hbig (by omega)).mono fin
 ·obtain ⟨xs1,rfl,hx1,hi1⟩:=call_open64 a1 n1 _ Tryz.underlying47 hcase1
  by_cases hbig2:40 < n2
  ·exact (kernelApart_many2 z0 a1 xs1 cap1 a2 n2 cap2 z3 W (by omega) hx1 hbig2 (by omega)).mono fin
  ·obtain ⟨xs2,rfl,hx2,hi2⟩:=call_open64 a2 n2 _ Tryz.underlying47 hcase2
   exact (kernelApart_few z0 a1 xs1 cap1 a2 xs2 cap2 z3 W (laidNumU_met hL).1 (laidNumU_met hL).2 (by omega) hx1 hi1 (by omega) hx2 hi2).mono fin
end KernelApart
end
end Go.Proofs.YtamleilijmgoeaaGreatDoor
