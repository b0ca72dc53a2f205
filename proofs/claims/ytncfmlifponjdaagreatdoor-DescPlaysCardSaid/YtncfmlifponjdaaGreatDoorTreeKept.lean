/- A tree's changes that make no node: files that are held stay. Plain, no program in sight. Conditions: each theorem's own premises. -/
import Derived.Test.YtncfmlifponjdaaGreatDoorDescLaw
import Derived.Test.YtncfmlifponjdaaGreatDoorPaths
import Derived.Test.YtncfmlifponjdaaGreatDoorTreeList
namespace Go.Proofs.YtncfmlifponjdaaGreatDoor
open Go.RowKit
set_option linter.unusedVariables false
section
variable {T T' T2:PT} {p:PN} {n:Int} {s old path:ByteArray}
/-! ### what a tree's change lets stay -/
structure Kept (T T':PT):Prop where
 old:∀ n p,mget T n=some p→p.isDir=false→0 < p.held→∃ q,mget T' n=some q∧q.isDir=false∧q.held=p.held
 new:∀ n q,mget T' n=some q→∃ p,mget T n=some p∧q.held=p.held
theorem Kept.refl (T:PT):Kept T T:=⟨fun n p h1 h2 _ => ⟨p,h1,h2,rfl⟩,fun n q h => ⟨q,h,rfl⟩⟩
theorem Kept.same (h:Kept T T'):Same T T':=⟨h.1,fun n q hq => .inl (h.2 n q hq)⟩
theorem Kept.trans (h:Kept T T') (g:Kept T' T2):Kept T T2:=by
 refine ⟨fun n p h1 h2 h3 => ?_,fun n q hq => ?_⟩
 ·obtain ⟨q,a1,a2,a3⟩:=h.1 n p h1 h2 h3
  obtain ⟨r,b1,b2,b3⟩:=g.1 n q a1 a2 (by rw [a3]; exact h3)
  exact ⟨r,b1,b2,b3.trans a3⟩
 ·obtain ⟨r,hr,he⟩:=g.2 n q hq
  obtain ⟨v,hv,he2⟩:=h.2 n r hr
  exact ⟨v,hv,he.trans he2⟩
theorem kept_put {d:PN} (hn:mget T n=some p) (h1:d.isDir=p.isDir) (h2:d.held=p.held):Kept T (mput T n d):=by
 refine ⟨fun m r hr hrd _ => ?_,fun m r hr => ?_⟩
 ·rw [mget_mput]
  by_cases e:m=n
  ·rw [e,hn] at hr
   cases hr
   exact ⟨d,if_pos e,by rw [h1]; exact hrd,h2⟩
  ·exact ⟨r,by rw [if_neg e]; exact hr,hrd,rfl⟩
 ·rw [mget_mput] at hr
  by_cases e:m=n
  ·rw [if_pos e] at hr
   cases hr
   exact ⟨p,by rw [e]; exact hn,h2⟩
  ·rw [if_neg e] at hr
   exact ⟨r,hr,rfl⟩
theorem updN_kept (T:PT) (n:Int) (f:PN→PN) (h1:∀ p,(f p).isDir=p.isDir) (h2:∀ p,(f p).held=p.held):Kept T (updN T n f):=by
 unfold updN
 cases hn:mget T n with
 | none => exact Kept.refl _
 | some p => exact kept_put hn (h1 p) (h2 p)
theorem gone_kept (hn:mget T n=some p):Kept T (goneT T n p):=by
 unfold goneT
 by_cases h:p.names=0∧p.held=0
 ·rw [if_pos h]
  refine ⟨fun m r hr hd h3 => ⟨r,?_,hd,rfl⟩,fun m r hr => ⟨r,?_,rfl⟩⟩
  ·rw [mget_mdel]
   by_cases e:m=n
   ·subst e; rw [hn] at hr; cases hr; omega
   ·rw [if_neg e]; exact hr
  ·rw [mget_mdel] at hr
   by_cases e:m=n
   ·rw [if_pos e] at hr; cases hr
   ·rw [if_neg e] at hr; exact hr
 ·rw [if_neg h]; exact Kept.refl _
theorem updN_get (T:PT) (m n:Int) (f:PN→PN) (h1:∀ p,(f p).isDir=p.isDir) (h2:∀ p,(f p).held=p.held) {q:PN} (hq:mget T n=some q):∃ r,mget (updN T m f) n=some r∧r.isDir=q.isDir∧r.held=q.held:=by
 unfold updN
 cases hm:mget T m with
 | none => exact ⟨q,hq,rfl,rfl⟩
 | some p =>
  show ∃ r,mget (mput T m (f p)) n=some r∧_
  rw [mget_mput]
  by_cases e:n=m
  ·subst e
   rw [hq] at hm; cases hm
   exact ⟨f q,if_pos rfl,h1 q,h2 q⟩
  ·exact ⟨q,by rw [if_neg e]; exact hq,rfl,rfl⟩
theorem unlink_kept (T:PT) (path:ByteArray):Kept T (unlinkT T path):=by
 unfold unlinkT
 by_cases h:unlinkE T path=0
 ·rw [if_pos h]
  cases hm:mget (dsT T (placeT T path).2.1) (placeT T path).2.2 with
  | none => exact Kept.refl _
  | some n =>
   cases hq:mget T n with
   | none => simp only [Option.elim,hq]; exact Kept.refl _
   | some q =>
    simp only [Option.elim,hq]
    obtain ⟨r,hr,hd,hh⟩:=updN_get T (placeT T path).2.1 n (fun p => { p with ds:=mdel p.ds (placeT T path).2.2 }) (by intro _; rfl) (by intro _; rfl) hq
    refine (updN_kept T (placeT T path).2.1 _ (by intro _; rfl) (by intro _; rfl)).trans ((kept_put hr (d:={ q with names:=q.names - 1 }) hd.symm hh.symm).trans (gone_kept (by rw [mget_mput,if_pos rfl])))
 ·rw [if_neg h]; exact Kept.refl _
end
end Go.Proofs.YtncfmlifponjdaaGreatDoor
