/- strconv.Itoa, by the kit's laid contract. Conditions: the table internal/strconv.uint64pow10 holds what is laid. -/
import Derived.Test.YtacoaahomdjfnaaDoorBase
import Derived.Test.YtacoaahomdjfnaaDoorProg
import Derived.Test.YtacoaahomdjfnaaDoorItoaI
import Derived.Shelf.Strconv.Itoa4
import Derived.Lib.ItoaLen
import Derived.Lib.SmallJoins
namespace Go.Proofs.YtacoaahomdjfnaaDoor
set_option linter.unusedVariables false
section
open Go.RowKit Go.Lib Go.Sort
def Tab (w:World):Prop:=TabIs Tryd.prog w "internal/strconv.uint64pow10" .u64 pow10Tab
theorem tabNamed:Tryd.prog.globalNamed "internal/strconv.uint64pow10"=some 1:=by kernel_rfl
theorem Tab.turned {w w':World} (h:Tab w) (t:Turn (fun _ => False) w w'):Tab w':=by
 unfold Tab TabIs World.var? at *
 rw [tabNamed] at *
 simp only [Option.bind_some] at *
 cases hb:w.heap[1]? with
 | none => rw [hb] at h; cases h
 | some o =>
  have hlt:=(Array.getElem?_eq_some_iff.1 hb).1
  rw [t.block _ hlt id]
  exact h
theorem turn_grow (w:World) (os:Array Obj):Turn (fun _ => False) w (grow w os):=⟨rfl,rfl,rfl,by simp [grow],fun k hk _ => by simp only [grow]; exact Array.getElem?_append_left hk⟩
theorem itoa_is (n:Int) (h0:-9223372036854775808≤n) (h1:n≤9223372036854775807) (w:World) (h:Tab w) :
  Calls Tryd.prog 17 #[.int .i64 n] w fun e w' => e=.returned (.string ⟨(itoa n).toArray⟩)∧Turn (fun _ => False) w w' :=
 (Any.strconv_Itoa laysItoaI n h0 h1 w h).mono fun e w' ⟨he,k,os,hw⟩ => ⟨he,by rw [hw]; exact ((Turn.refl _ w).drewN k).trans (turn_grow _ _)⟩
end
end Go.Proofs.YtacoaahomdjfnaaDoor
