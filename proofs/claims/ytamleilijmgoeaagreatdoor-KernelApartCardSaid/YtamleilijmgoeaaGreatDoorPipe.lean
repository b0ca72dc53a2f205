/- The contracts of package pipe: a pipe lies in one block: its bytes, and how many ends of each kind are open. Conditions: each theorem's own premises. Package pipe: Open. Conditions: each theorem's own premises. -/
import Derived.Test.YtamleilijmgoeaaGreatDoorProg
import Derived.Test.YtamleilijmgoeaaGreatDoorBase
import Derived.BigRegion
import Derived.Lib.Bytes
namespace Go.Proofs.YtamleilijmgoeaaGreatDoor
open Go.RowKit
set_option linter.unusedVariables false
structure PipeIs (w:World) (p:Nat) (b:ByteArray) (e0 e1:Int):Prop where
 c0:w.cell? ⟨p,0,none⟩=some (.string b)
 c1:w.cell? ⟨p,1,none⟩=some (.int .i64 e0)
 c2:w.cell? ⟨p,2,none⟩=some (.int .i64 e1)
 free:∀ i,w.frozen? ⟨p,i,none⟩=false
theorem PipeIs.lt {w:World} {p:Nat} {b:ByteArray} {e0 e1:Int} (h:PipeIs w p b e0 e1):p < w.heap.size:=lt_of_cell h.c0
theorem PipeIs.turned {w w':World} {p:Nat} {b:ByteArray} {e0 e1:Int} {S:Nat→Prop} (h:PipeIs w p b e0 e1) (t:Turn S w w') (h1:¬ S p):PipeIs w' p b e0 e1 :=
 ⟨(t.cell (a:=⟨p,0,none⟩) h.lt h1).trans h.c0,(t.cell (a:=⟨p,1,none⟩) h.lt h1).trans h.c1,(t.cell (a:=⟨p,2,none⟩) h.lt h1).trans h.c2,fun i => (t.frozen (a:=⟨p,i,none⟩) h.lt h1).trans (h.free i)⟩
theorem turn_set (w:World) (p i:Nat) (v:Value):Turn (fun k => k=p) w (w.setCell ⟨p,i,none⟩ v):=(Turn.refl _ _).setCell _ _ (fun _ => rfl)
theorem PipeIs.drew {w:World} {p:Nat} {b:ByteArray} {e0 e1:Int} (h:PipeIs w p b e0 e1):PipeIs w.drew p b e0 e1:=⟨h.c0,h.c1,h.c2,h.free⟩
theorem PipeIs.set0 {w:World} {p:Nat} {b:ByteArray} {e0 e1:Int} (h:PipeIs w p b e0 e1) (b':ByteArray):PipeIs (w.setCell ⟨p,0,none⟩ (.string b')) p b' e0 e1:=by
 refine ⟨World.cell?_setCell_same _ _ _ h.c0,by rw [World.cell?_setCell_other _ _ _ _ (by intro e; injection e with _ e; omega)]; exact h.c1,by rw [World.cell?_setCell_other _ _ _ _ (by intro e; injection e with _ e; omega)]; exact h.c2,fun i => by rw [World.frozen?_setCell]; exact h.free i⟩
theorem PipeIs.set1 {w:World} {p:Nat} {b:ByteArray} {e0 e1:Int} (h:PipeIs w p b e0 e1) (e:Int):PipeIs (w.setCell ⟨p,1,none⟩ (.int .i64 e)) p b e e1:=by
 refine ⟨by rw [World.cell?_setCell_other _ _ _ _ (by intro e; injection e with _ e; omega)]; exact h.c0,World.cell?_setCell_same _ _ _ h.c1,by rw [World.cell?_setCell_other _ _ _ _ (by intro e; injection e with _ e; omega)]; exact h.c2,fun i => by rw [World.frozen?_setCell]; exact h.free i⟩
theorem PipeIs.set2 {w:World} {p:Nat} {b:ByteArray} {e0 e1:Int} (h:PipeIs w p b e0 e1) (e:Int):PipeIs (w.setCell ⟨p,2,none⟩ (.int .i64 e)) p b e0 e:=by
 refine ⟨by rw [World.cell?_setCell_other _ _ _ _ (by intro e; injection e with _ e; omega)]; exact h.c0,by rw [World.cell?_setCell_other _ _ _ _ (by intro e; injection e with _ e; omega)]; exact h.c1,World.cell?_setCell_same _ _ _ h.c2,fun i => by rw [World.frozen?_setCell]; exact h.free i⟩
/-! ### right -/
theorem end2 (w:World):Calls Tryz.prog 217 #[.int .i64 2] w fun e w' => e=.returned (.bool true)∧w=w':=by
 go_enter Tryz.func217,Tryz.ntmps217
 go_wp2
 go_ret
 exact ⟨rfl,rfl⟩
theorem end3 (w:World):Calls Tryz.prog 217 #[.int .i64 3] w fun e w' => e=.returned (.bool true)∧w=w':=by
 go_enter Tryz.func217,Tryz.ntmps217
 go_wp2
 go_ret
 exact ⟨rfl,rfl⟩
/-! ### Close -/
theorem close2 {w:World} {p:Nat} {b:ByteArray} {e0 e1:Int} (h:PipeIs w p b e0 e1) (hb:0 < e0) (hb2:e0≤1000000) :
  Calls Tryz.prog 140 #[.pointer (some ⟨p,0,none⟩),.int .i64 2] w fun e w' => e=.returned .nilIface∧PipeIs w' p b (e0 - 1) e1∧Turn (fun k => k=p) w w':=by
 have hc:=h.c1
 have hz:=h.free 1
 have hw:IntKind.i64.wrap (e0 - 1)=e0 - 1:=IntWalk.i64_in _ (by omega)
 have H:=hid h
 clear h
 go_enter Tryz.func140,Tryz.ntmps140
 go_wp2_with (go_at_call 217; refine (end2 _).mono ?_; rintro e w' ⟨rfl,rfl⟩)
 go_region
 all_goals go_wp2_with fail
 all_goals go_ret
 all_goals exact ⟨rfl,(H.out.set1 _).drew,(turn_set w p _ _).drew⟩
theorem close3 {w:World} {p:Nat} {b:ByteArray} {e0 e1:Int} (h:PipeIs w p b e0 e1) (hb:0 < e1) (hb2:e1≤1000000) :
  Calls Tryz.prog 140 #[.pointer (some ⟨p,0,none⟩),.int .i64 3] w fun e w' => e=.returned .nilIface∧PipeIs w' p b e0 (e1 - 1)∧Turn (fun k => k=p) w w':=by
 have hc:=h.c2
 have hz:=h.free 2
 have hw:IntKind.i64.wrap (e1 - 1)=e1 - 1:=IntWalk.i64_in _ (by omega)
 have H:=hid h
 clear h
 go_enter Tryz.func140,Tryz.ntmps140
 go_wp2_with (go_at_call 217; refine (end3 _).mono ?_; rintro e w' ⟨rfl,rfl⟩)
 go_region
 all_goals go_wp2_with fail
 all_goals go_ret
 all_goals exact ⟨rfl,(H.out.set2 _).drew,(turn_set w p _ _).drew⟩
theorem full_of {s:ByteArray} (h:0 < s.size):s.toList.isEmpty=false:=by
 rw [Go.Lib.toList_data]
 cases s with | mk d => cases d with | mk l => cases l with | nil => exact absurd h (by decide) | cons a t => rfl
theorem empty_of {s:ByteArray} (h:s.size=0):s=ByteArray.empty:=by
 cases s with | mk d => simp [ByteArray.size] at h; subst h; rfl
theorem ret_pair {a b:Int} {v:Value} (h:a=b):Ending.returned (.tuple #[.int .i64 a,v])=.returned (.tuple #[.int .i64 b,v]):=by rw [h]
theorem ext_all (s:ByteArray):s.extract 0 s.size=s:=by simp
theorem ext_none (s:ByteArray):s.extract 0 0=ByteArray.empty:=by simp
theorem ext_end (s:ByteArray):s.extract s.size s.size=ByteArray.empty:=by simp
theorem ret_str {a b:ByteArray} {v:Value} (h:a=b):Ending.returned (.tuple #[.string a,v])=.returned (.tuple #[.string b,v]):=by rw [h]
/-! ### Write -/
theorem write_nobody {w:World} {p:Nat} {b:ByteArray} {e1:Int} (h:PipeIs w p b 0 e1) (s:ByteArray) :
  Calls Tryz.prog 141 #[.pointer (some ⟨p,0,none⟩),.string s] w fun e w' => e=.returned (.tuple #[.int .i64 0,.iface 36 (.int .i64 14)])∧w=w':=by
 have hc:=h.c1
 clear h
 go_enter Tryz.func141,Tryz.ntmps141
 go_wp2_with fail
 go_ret2
 exact ⟨rfl,rfl⟩
theorem write_empty {w:World} {p:Nat} {b:ByteArray} {e0 e1:Int} (h:PipeIs w p b e0 e1) (he:0 < e0) (s:ByteArray) (hs:s.size=0) :
  Calls Tryz.prog 141 #[.pointer (some ⟨p,0,none⟩),.string s] w fun e w' => e=.returned (.tuple #[.int .i64 0,.nilIface])∧w=w':=by
 have hc:=h.c1
 obtain rfl:=empty_of hs
 clear h hs
 go_enter Tryz.func141,Tryz.ntmps141
 go_wp2_with fail
 go_ret2
 exact ⟨rfl,rfl⟩
theorem write_full {w:World} {p:Nat} {b:ByteArray} {e0 e1:Int} (h:PipeIs w p b e0 e1) (he:0 < e0) (s:ByteArray) (hs:0 < s.size) (hb:16≤b.size) (hb2:b.size≤1000000) :
  Calls Tryz.prog 141 #[.pointer (some ⟨p,0,none⟩),.string s] w fun e w' => e=.returned (.tuple #[.int .i64 0,.iface 36 (.int .i64 12)])∧w=w':=by
 have hc:=h.c1
 have hc0:=h.c0
 have hsb:=full_of hs
 clear h
 go_enter Tryz.func141,Tryz.ntmps141
 go_wp2_with fail
 go_ret2
 exact ⟨rfl,rfl⟩
theorem write_some {w:World} {p:Nat} {b:ByteArray} {e0 e1:Int} (h:PipeIs w p b e0 e1) (he:0 < e0) (s:ByteArray) (hs:0 < s.size) (hs2:s.size≤1000000) (hb:b.size < 16) (n:Nat) (hn:n=min s.size (16 - b.size)) :
  Calls Tryz.prog 141 #[.pointer (some ⟨p,0,none⟩),.string s] w fun e w' => e=.returned (.tuple #[.int .i64 n,.nilIface])∧PipeIs w' p (b ++ s.extract 0 n) e0 e1∧Turn (fun k => k=p) w w':=by
 have hc:=h.c1
 have hc0:=h.c0
 have hsb:=full_of hs
 have hz:=h.free 0
 have H:=hid h
 clear h
 go_enter Tryz.func141,Tryz.ntmps141
 go_wp2_with fail
 ·have en:n=16 - b.size:=by omega
  go_region
  all_goals go_wp2_with fail
  all_goals go_ret2
  all_goals exact ⟨ret_pair (by omega),by rw [en]; exact (H.out.set0 _).drew,(turn_set w p _ _).drew⟩
 ·have en:n=s.size:=by omega
  go_region
  all_goals go_wp2_with fail
  all_goals go_ret2
  all_goals exact ⟨ret_pair (by omega),by rw [en,ext_all]; exact (H.out.set0 _).drew,(turn_set w p _ _).drew⟩
/-! ### Read -/
theorem read_neg {w:World} {p:Nat} {b:ByteArray} {e0 e1:Int} (h:PipeIs w p b e0 e1) (n:Int) (hn:n < 0) :
  Calls Tryz.prog 148 #[.pointer (some ⟨p,0,none⟩),.int .i64 n] w fun e w' => e=.returned (.tuple #[.string ByteArray.empty,.iface 36 (.int .i64 2)])∧w=w':=by
 clear h
 go_enter Tryz.func148,Tryz.ntmps148
 go_wp2_with fail
 go_ret2
 exact ⟨rfl,rfl⟩
theorem read_none {w:World} {p:Nat} {b:ByteArray} {e0 e1:Int} (h:PipeIs w p b e0 e1) (n:Int) (hn:0 < n) (hb:b.size=0) (he:0 < e1) :
  Calls Tryz.prog 148 #[.pointer (some ⟨p,0,none⟩),.int .i64 n] w fun e w' => e=.returned (.tuple #[.string ByteArray.empty,.iface 36 (.int .i64 8)])∧w=w':=by
 have hc:=h.c2
 have hc0:=h.c0
 obtain rfl:=empty_of hb
 clear h
 go_enter Tryz.func148,Tryz.ntmps148
 go_wp2_with fail
 go_ret2
 exact ⟨rfl,rfl⟩
theorem read_some {w:World} {p:Nat} {b:ByteArray} {e0 e1:Int} (h:PipeIs w p b e0 e1) (n:Int) (hn:0≤n) (hb:b.size≤1000000) (hcase:n=0∨0 < b.size∨e1=0) (k:Nat) (hk:k=min n.toNat b.size) :
  Calls Tryz.prog 148 #[.pointer (some ⟨p,0,none⟩),.int .i64 n] w fun e w' => e=.returned (.tuple #[.string (b.extract 0 k),.nilIface])∧PipeIs w' p (b.extract k b.size) e0 e1∧Turn (fun k => k=p) w w':=by
 have hc:=h.c2
 have hc0:=h.c0
 have hz:=h.free 0
 have H:=hid h
 have HK:=hid hk
 clear h hk
 rcases hcase with rfl | hs | rfl
 ·have hk0:k=0:=by have:=HK.out; omega
  go_enter Tryz.func148,Tryz.ntmps148
  go_wp2_with fail
  all_goals go_ret2
  all_goals exact ⟨ret_str (by rw [hk0,ext_none]),by rw [hk0,ext_all]; exact H.out.set0 _,turn_set w p _ _⟩
 ·have hsb:=full_of hs
  go_enter Tryz.func148,Tryz.ntmps148
  go_wp2_with fail
  all_goals go_ret2
  all_goals first | exact ⟨ret_str (by rw [show k=b.size from by have:=HK.out; omega,ext_all]),by rw [show k=b.size from by have:=HK.out; omega,ext_end]; exact H.out.set0 _,turn_set w p _ _⟩ | exact ⟨ret_str (by rw [show k=n.toNat from by have:=HK.out; omega]),by rw [show k=n.toNat from by have:=HK.out; omega]; exact H.out.set0 _,turn_set w p _ _⟩
 ·go_enter Tryz.func148,Tryz.ntmps148
  go_wp2_with fail
  all_goals go_ret2
  all_goals first | exact ⟨ret_str (by rw [show k=b.size from by have:=HK.out; omega,ext_all]),by rw [show k=b.size from by have:=HK.out; omega,ext_end]; exact H.out.set0 _,turn_set w p _ _⟩ | exact ⟨ret_str (by rw [show k=n.toNat from by have:=HK.out; omega]),by rw [show k=n.toNat from by have:=HK.out; omega]; exact H.out.set0 _,turn_set w p _ _⟩
/-! ### Open -/
theorem open2 {w:World} {p:Nat} {b:ByteArray} {e0 e1:Int} (h:PipeIs w p b e0 e1) (hb:0≤e0) (hb2:e0≤1000000) :
  Calls Tryz.prog 135 #[.pointer (some ⟨p,0,none⟩),.int .i64 2] w fun e w' => e=.returned .nilIface∧PipeIs w' p b (e0+1) e1∧Turn (fun k => k=p) w w':=by
 have hc:=h.c1
 have hz:=h.free 1
 have hw:IntKind.i64.wrap (e0+1)=e0+1:=IntWalk.i64_in _ (by omega)
 have H:=hid h
 clear h
 go_enter Tryz.func135,Tryz.ntmps135
 go_wp2_with (go_at_call 217; refine (end2 _).mono ?_; rintro e w' ⟨rfl,rfl⟩)
 go_region
 all_goals go_wp2_with fail
 all_goals go_ret
 all_goals exact ⟨rfl,(H.out.set1 _).drew,(turn_set w p _ _).drew⟩
theorem open3 {w:World} {p:Nat} {b:ByteArray} {e0 e1:Int} (h:PipeIs w p b e0 e1) (hb:0≤e1) (hb2:e1≤1000000) :
  Calls Tryz.prog 135 #[.pointer (some ⟨p,0,none⟩),.int .i64 3] w fun e w' => e=.returned .nilIface∧PipeIs w' p b e0 (e1+1)∧Turn (fun k => k=p) w w':=by
 have hc:=h.c2
 have hz:=h.free 2
 have hw:IntKind.i64.wrap (e1+1)=e1+1:=IntWalk.i64_in _ (by omega)
 have H:=hid h
 clear h
 go_enter Tryz.func135,Tryz.ntmps135
 go_wp2_with (go_at_call 217; refine (end3 _).mono ?_; rintro e w' ⟨rfl,rfl⟩)
 go_region
 all_goals go_wp2_with fail
 all_goals go_ret
 all_goals exact ⟨rfl,(H.out.set2 _).drew,(turn_set w p _ _).drew⟩
end Go.Proofs.YtamleilijmgoeaaGreatDoor
