/- strconv.FormatInt at base 10, by the kit's laid contract. Conditions: the table internal/strconv.uint64pow10 holds what is laid. -/
import Derived.Test.YtamleilijmgoeaaGreatDoorItoaText
import Derived.Test.YtamleilijmgoeaaGreatDoorFmtI
namespace Go.Proofs.YtamleilijmgoeaaGreatDoor
set_option linter.unusedVariables false
section
open Go.RowKit Go.Lib Go.Sort
theorem fmt_is (n:Int) (h0:-9223372036854775808≤n) (h1:n≤9223372036854775807) (w:World) (h:Tab w) :
  Calls Tryz.prog 213 #[.int .i64 n,.int .i64 10] w fun e w' => e=.returned (.string ⟨(itoa n).toArray⟩)∧Turn (fun _ => False) w w' :=
 (Any.strconv_FormatInt_10 laysFmtI n h0 h1 w h).mono fun e w' ⟨he,k,os,hw⟩ => ⟨he,by rw [hw]; exact ((Turn.refl _ w).drewN k).trans (turn_grow _ _)⟩
end
end Go.Proofs.YtamleilijmgoeaaGreatDoor
