import Derived.Test.YtaocfjifacnokaaGreatRows
import Derived.Test.YtaocfjifacnokaaGreatAb17
namespace Go.Proofs.YtaocfjifacnokaaGreat
open Go.Lad
set_option linter.unusedVariables false
theorem Mv:(((begin Tryz.prog (fun _ _=>0) default).world.heap[0]?).bind Obj.row?) = some (#[.int .i64 0],3):=by kernel_rfl
theorem Mw:Tryz.prog.buildable 3 = true:=by kernel_rfl
theorem My:Tryz.prog.cellTypes Tryz.prog.depth 3 = some [3]:=by kernel_rfl
theorem Mz:0 < Tryz.prog.globals.size:=Nat.le_of_ble_eq_true (by kernel_rfl)
set_option maxRecDepth 100000 in
theorem wO {W:World} (h:W.ShapedOpen Tryz.prog):wQ (fun _=>0) W:=by
 intro g hg
 have ht:∀ g cs,wC g ≠ some cs:=fun g cs e=>by unfold wC at e; cases e
 have h0:g = 0:=by
  rcases hg with h1 | h1
  ·unfold wC at h1; cases h1
  ·unfold Is at h1; exact Nat.eq_of_beq_eq_true h1
 subst h0
 obtain⟨cs,hh,hs,hr⟩:=h.1 0 _ _ Mz Mv
 obtain⟨ts,hts,_,hall⟩:=hr Mw
 rw[My] at hts
 cases hts
 have h1:0 < cs.size:=by rw[hs]; exact Nat.zero_lt_one
 obtain⟨u,hu',hok⟩:=hall 0 (cs[0]'h1) (by simp [h1])
 have hut:u = 3:=by simpa using hu'.symm
 subst hut
 have hcell:W.cell? ⟨0,0,none⟩ = some (cs[0]'h1):=by
  show (match W.heap[0]? with | some (.cells cs _ _)=>cs[0]? | _=>none) = _
  rw[hh]
  exact Array.getElem?_eq_getElem h1
 refine⟨rfl,?_,fun cs e=>absurd e (ht 0 cs),fun _=>?_⟩
 ·apply Classical.byContradiction
  intro hn
  have:W.heap[0]? = none:=Array.getElem?_eq_none (by omega)
  simp [this] at hh
 ·rw[hcell]
  unfold Cell.ok at hok
  rw[Tryz.underlying3] at hok
  cases hv:(cs[0]'h1) <;> rw[hv] at hok <;> first | (obtain⟨rfl,_⟩:=hok; exact⟨_,rfl⟩) | exact hok.elim | simp at hok
end Go.Proofs.YtaocfjifacnokaaGreat
