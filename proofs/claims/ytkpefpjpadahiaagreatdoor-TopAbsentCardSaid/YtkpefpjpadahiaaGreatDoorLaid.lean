import Derived.Test.YtkpefpjpadahiaaGreatDoorRows
import Derived.Test.YtkpefpjpadahiaaGreatDoorAb17
import Derived.Lib.LaidTab
import Derived.Stop.LaidErr
namespace Go.Proofs.YtkpefpjpadahiaaGreatDoor
open Go.Lad
set_option linter.unusedVariables false
theorem Pv:(((begin Tryz.prog (fun _ _=>0) default).world.heap[0]?).bind Obj.row?)=some (#[.int .i64 0],3):=by kernel_rfl
theorem Pw:Tryz.prog.buildable 3=true:=by kernel_rfl
theorem Px:Tryz.prog.cellTypes Tryz.prog.depth 3=some [3]:=by kernel_rfl
theorem Py:Tryz.prog.globals.size=11:=by kernel_rfl
theorem P1:(Rows.topAbsentRow.laid.filter fun x=>x.2.handleName?.isSome)=[]:=by kernel_rfl
theorem P2:Rows.laid_internal_strconv_uint64pow10 (H:=Unit)=Lib.tabData .u64 Lib.pow10Tab:=by kernel_rfl
theorem gSp:Rows.laid_strings_asciiSpace (H:=Unit)=Lib.tabData .u8 Lib.asciiSpaceTab:=by kernel_rfl
set_option maxRecDepth 100000 in
theorem MH {W:World} (hL:laidMetH Tryz.prog Rows.topAbsentRow.laid W) (h:W.ShapedOpen Tryz.prog):xu (fun _=>0) W:=by
 have hL:laidMet Tryz.prog Rows.topAbsentRow.laid W:=by
  unfold laidMetH at hL;rw[P1] at hL;exact hL
 obtain⟨r1,h1⟩:∃ r,laidMet Tryz.prog (("internal/strconv.uint64pow10", Lib.tabData .u64 Lib.pow10Tab)::r) W:=by
  have:=laidMet.tail (laidMet.tail (show laidMet Tryz.prog (_::_::("internal/strconv.uint64pow10", Rows.laid_internal_strconv_uint64pow10)::_) W from hL))
  rw[P2] at this;exact⟨_,this⟩
 obtain⟨r2,h2⟩:∃ r,laidMet Tryz.prog (("strings.asciiSpace", Lib.tabData .u8 Lib.asciiSpaceTab)::r) W:=by
  have:=laidMet.tail (laidMet.tail (laidMet.tail (laidMet.tail (laidMet.tail (laidMet.tail (laidMet.tail (show laidMet Tryz.prog (_::_::_::_::_::_::_::("strings.asciiSpace", Rows.laid_strings_asciiSpace)::_) W from hL)))))))
  rw[gSp] at this;exact⟨_,this⟩
 have t1:=oY (P:=Tryz.prog) (g:=1) (by kernel_rfl) (Lib.tabIs_of_head (g:=1) (t:=332) (e:=287) (n:=20) (by kernel_rfl) (by kernel_rfl) (by kernel_rfl) (by kernel_rfl) (by kernel_rfl) (by kernel_rfl) h1);have t2:=oY (P:=Tryz.prog) (g:=2) (by kernel_rfl) (Lib.tabIs_of_head (g:=2) (t:=312) (e:=5) (n:=256) (by kernel_rfl) (by kernel_rfl) (by kernel_rfl) (by kernel_rfl) (by kernel_rfl) (by kernel_rfl) h2);clear h1 h2 hL;have ht:∀ g cs,w6 g≠some cs:=fun g cs e=>by unfold w6 at e; cases e
 have lt:∀ g k zs,D3 W g k zs->g<W.heap.size:=fun g k zs e=>by
  obtain⟨t,fr,e⟩:=e;apply Classical.byContradiction;intro hn;rw[Array.getElem?_eq_none (by omega)] at e;cases e
 intro g hg;rcases hg with hg | hg | hg
 ·unfold w6 at hg; cases hg
 ·have h0:g=0:=by unfold He at hg; exact Nat.eq_of_beq_eq_true hg
  subst h0;obtain⟨cs,hh,hs,hr⟩:=h.1 0 _ _ (by rw[Py]; decide) Pv;obtain⟨ts,hts,_,hall⟩:=hr Pw;rw[Px] at hts;cases hts;have h1:0<cs.size:=by rw[hs]; decide
  obtain⟨u,hu',hok⟩:=hall 0 cs[0] (by simp [h1]);have:u=3:=by simpa using hu'.symm
  subst this;have hcell:W.cell? ⟨0,0,none⟩=some cs[0]:=by simp [World.cell?,hh,h1]
  refine⟨rfl,?_,fun cs e=>absurd e (ht 0 cs),fun _=>?_,fun k zs e=>by cases e⟩
  ·apply Classical.byContradiction;intro hn;have:W.heap[0]?=none:=Array.getElem?_eq_none (by omega);simp [this] at hh
  ·rw[hcell];unfold Cell.ok at hok;rw[Tryz.underlying3] at hok;cases hv:cs[0] <;> rw[hv] at hok <;> first | (obtain⟨rfl,_⟩:=hok; exact⟨_,rfl⟩) | exact hok.elim | simp at hok
 ·have hx:g=1\/g=2:=by
   unfold Hf at hg;split at hg
   ·exact .inl rfl
   ·exact .inr rfl
   ·cases hg
  rcases hx with hx | hx
  ·subst hx;exact⟨rfl,lt _ _ _ t1,fun cs e=>absurd e (ht 1 cs),(fun e=>by cases e),fun k zs e=>by cases e; exact t1⟩
  ·subst hx;exact⟨rfl,lt _ _ _ t2,fun cs e=>absurd e (ht 2 cs),(fun e=>by cases e),fun k zs e=>by cases e; exact t2⟩
end Go.Proofs.YtkpefpjpadahiaaGreatDoor
