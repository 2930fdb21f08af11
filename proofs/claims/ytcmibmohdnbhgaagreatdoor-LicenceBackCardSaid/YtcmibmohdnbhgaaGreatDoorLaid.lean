import Derived.Test.YtcmibmohdnbhgaaGreatDoorRows
import Derived.Test.YtcmibmohdnbhgaaGreatDoorAb17
namespace Go.Proofs.YtcmibmohdnbhgaaGreatDoor
open Go.Lad
set_option linter.unusedVariables false
theorem gMax0:(((begin Tryz.prog (fun _ _=>0) default).world.heap[0]?).bind Obj.row?) = some (#[.int .i64 0],3):=by kernel_rfl
theorem gMax1:Tryz.prog.buildable 3 = true:=by kernel_rfl
theorem gMax2:Tryz.prog.cellTypes Tryz.prog.depth 3 = some [3]:=by kernel_rfl
theorem gMax3:Tryz.prog.globals.size = 3:=by kernel_rfl
set_option maxRecDepth 100000 in
theorem glob_of_shape {W:World} (h:W.ShapedOpen Tryz.prog):GlobR (fun _=>0) W:=by
 intro g hg
 have ht:∀ g cs,gtab g ≠ some cs:=fun g cs e=>by unfold gtab at e; cases e
 have h0:g = 0:=by
  rcases hg with h1 | h1
  ·unfold gtab at h1; cases h1
  ·unfold gany at h1; exact Nat.eq_of_beq_eq_true h1
 subst h0
 obtain⟨cs,hh,hs,hr⟩:=h.1 0 _ _ (by rw[gMax3]; decide) gMax0
 obtain⟨ts,hts,_,hall⟩:=hr gMax1
 rw[gMax2] at hts
 cases hts
 have h1:0 < cs.size:=by rw[hs]; decide
 obtain⟨u,hu',hok⟩:=hall 0 cs[0] (by simp [h1])
 have:u = 3:=by simpa using hu'.symm
 subst this
 have hcell:W.cell? ⟨0,0,none⟩ = some cs[0]:=by simp [World.cell?,hh,h1]
 refine⟨rfl,?_,fun cs e=>absurd e (ht 0 cs),fun _=>?_⟩
 ·apply Classical.byContradiction
  intro hn
  have:W.heap[0]? = none:=Array.getElem?_eq_none (by omega)
  simp [this] at hh
 ·rw[hcell]
  unfold Cell.ok at hok
  rw[Tryz.underlying3] at hok
  cases hv:cs[0] <;> rw[hv] at hok <;> first | (obtain⟨rfl,_⟩:=hok; exact⟨_,rfl⟩) | exact hok.elim | simp at hok
end Go.Proofs.YtcmibmohdnbhgaaGreatDoor
