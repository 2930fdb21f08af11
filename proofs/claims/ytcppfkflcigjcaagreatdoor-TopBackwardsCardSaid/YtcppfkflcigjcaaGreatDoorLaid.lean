import Derived.Test.YtcppfkflcigjcaaGreatDoorRows
import Derived.Test.YtcppfkflcigjcaaGreatDoorFF
import Derived.Lib.LaidTab
import Derived.Stop.LaidErr
namespace Go.Proofs.YtcppfkflcigjcaaGreatDoor
open Go.Lad
set_option linter.unusedVariables false
theorem Q8:(((begin Tryz.prog (fun _ _=>0) default).world.heap[0]?).bind Obj.row?)=some (#[.int .i64 0],3):=by kernel_rfl
theorem Q9:Tryz.prog.buildable 3=true:=by kernel_rfl
theorem Ra:Tryz.prog.cellTypes Tryz.prog.depth 3=some [3]:=by kernel_rfl
theorem Rb:Tryz.prog.globals.size=12:=by kernel_rfl
theorem RA:(Rows.topBackwardsRow.laid.filter fun x=>x.2.handleName?.isSome)=[]:=by kernel_rfl
theorem RC:Rows.laid_internal_strconv_uint64pow10 (H:=Unit)=Lib.tabData .u64 Lib.pow10Tab:=by kernel_rfl
theorem gSp:Rows.laid_strings_asciiSpace (H:=Unit)=Lib.tabData .u8 Lib.asciiSpaceTab:=by kernel_rfl
theorem zt {H:Type} {enc:TypeId×Value->H} {P:Program} {w:World} {base:Nat} {sp:Nat->Bool} {held:Bool} {fuel:Nat} {t e:TypeId} {n:Nat} {cs:List Value} {zs:List (List UInt8)} {p:List MemPlace}
  (ht:P.underlying t=some (.array n e)) (he:P.underlying e=some .string) (hce:P.cellsOf e=1) (hct:P.cellsOf t=n)
  (h:DataW.trod enc P w base sp held fuel t cs=some (.agg (zs.map fun z=>.lit (.string z)),p)):cs=zs.map fun z=>Value.string ⟨z.toArray⟩:=by
 cases fuel with
 | zero=>simp [DataW.trod] at h
 | succ fuel =>
  simp only[DataW.trod,ht,hce,hct,Nat.mul_one] at h;split at h
  ·rename_i hl;obtain⟨xs,hm,hx⟩:=Option.map_eq_some_iff.1 h;have hxs:xs.map (·.1)=zs.map fun z=>(DataW.lit (.string z):DataW H):=by
    have:=congrArg Prod.fst hx
    simpa using this
   have hxl:xs.length=n:=by simpa using Lib.mapM_length hm
   have hzl:zs.length=n:=by
    have:=congrArg List.length hxs;simp at this;omega
   apply List.ext_getElem?;intro i;by_cases hi:i<n
   ·obtain⟨b,hb,hf⟩:=Lib.mapM_at hm i i (by simp [hi]);obtain⟨z,hc,rfl,_⟩:=DataW.trod_string he hf;have h1:cs[i]?=some (.string z):=by
     have:=congrArg (·[0]?) hc
     simpa [List.getElem?_take,List.getElem?_drop] using this
    have h2:(xs.map (·.1))[i]?=some (DataW.lit (.string z.data.toList):DataW H):=by simp [hb]
    rw[hxs] at h2;simp only[List.getElem?_map,Option.map_eq_some_iff,DataW.lit.injEq,Lit.string.injEq] at h2;obtain⟨z',hz',hz2⟩:=h2;subst hz2;simp [h1,hz']
   ·rw[List.getElem?_eq_none (by omega),List.getElem?_eq_none (by simp; omega)]
  ·cases h
theorem Rc:Tryz.prog.globalNamed "lading/lex.signs" = some 1:=by kernel_rfl
theorem Mn:(Tryz.prog.globals[1]?).map (·.type)=some 437:=by kernel_rfl
theorem OF:Tryz.prog.cellsOf 437=14:=by kernel_rfl
theorem Mo:Tryz.prog.cellsOf 9=1:=by kernel_rfl
abbrev Mp:List (List UInt8):=[[61,61],[59],[44],[61],[60],[43],[45],[42],[46],[33],[40],[41],[123],[125]]
set_option maxRecDepth 100000 in
theorem OG {W:World} (hL:laidMetH Tryz.prog Rows.topBackwardsRow.laid W) (h:W.ShapedOpen Tryz.prog):wX (fun _=>0) W:=by
 have hL:laidMet Tryz.prog Rows.topBackwardsRow.laid W:=by
  unfold laidMetH at hL;rw[RA] at hL;exact hL
 obtain⟨r0,h0⟩:∃ r,laidMet Tryz.prog (("lading/lex.signs", Rows.laid_lading_lex_signs)::r) W:=by
  have:=laidMet.tail (laidMet.tail (show laidMet Tryz.prog (_::_::("lading/lex.signs", Rows.laid_lading_lex_signs)::_) W from hL))
  exact⟨_,this⟩
 obtain⟨r2,h2⟩:∃ r,laidMet Tryz.prog (("strings.asciiSpace", Lib.tabData .u8 Lib.asciiSpaceTab)::r) W:=by
  have:=laidMet.tail (laidMet.tail (laidMet.tail (show laidMet Tryz.prog (_::_::_::("strings.asciiSpace", Rows.laid_strings_asciiSpace)::_) W from hL)))
  rw[gSp] at this;exact⟨_,this⟩
 obtain⟨r1,h1⟩:∃ r,laidMet Tryz.prog (("internal/strconv.uint64pow10", Lib.tabData .u64 Lib.pow10Tab)::r) W:=by
  have:=laidMet.tail (laidMet.tail (laidMet.tail (laidMet.tail (laidMet.tail (show laidMet Tryz.prog (_::_::_::_::_::("internal/strconv.uint64pow10", Rows.laid_internal_strconv_uint64pow10)::_) W from hL)))))
  rw[RC] at this;exact⟨_,this⟩
 have sg:1<W.heap.size/\∀ (j:Nat) p,(Mp.map fun z=>PV.str ⟨z.toArray⟩)[j]?=some p->p.Plain/\W.cell? ⟨1,j,none⟩=some p.toV:=by
  obtain⟨ps,⟨g',t',cs,fuel,p,q,hg',ht',hvar,hd,_,_⟩,_⟩:=h0;obtain rfl:=Option.some.inj (Rc.symm.trans hg');obtain rfl:=Option.some.inj (Mn.symm.trans ht');have hc:=zt (zs:=Mp) Tryz.underlying437 Tryz.underlying9 Mo OF hd;have hcell:∀ i,W.cell? ⟨1,i,none⟩=cs[i]? := World.var?_cell Rc hvar;have hcs:∀ i,cs[i]?=(Mp.map fun z=>Value.string ⟨z.toArray⟩)[i]? := fun i=>by rw[← hc,Array.getElem?_toList]
  refine⟨?_,fun j p hp=>?_⟩
  ·have h0:=(hcell 0).trans (hcs 0);apply Classical.byContradiction;intro hn;have:W.heap[1]?=none:=Array.getElem?_eq_none (by omega);simp [World.cell?,this] at h0
  ·rw[List.getElem?_map] at hp;obtain⟨z,hz,rfl⟩:=Option.map_eq_some_iff.1 hp;refine⟨?_,?_⟩
   ·have h2:∀ z∈Mp,z.length<=2:=by decide
    have h3:=h2 z (List.mem_of_getElem? hz);show z.toArray.size<=9223372036854775807;rw[List.size_toArray]; omega
   ·rw[hcell,hcs,List.getElem?_map,hz]; rfl
 have t1:=rq (P:=Tryz.prog) (g:=5) (by kernel_rfl) (Lib.tabIs_of_head (g:=5) (t:=521) (e:=250) (n:=20) (by kernel_rfl) (by kernel_rfl) (by kernel_rfl) (by kernel_rfl) (by kernel_rfl) (by kernel_rfl) h1);have t2:=rq (P:=Tryz.prog) (g:=2) (by kernel_rfl) (Lib.tabIs_of_head (g:=2) (t:=457) (e:=5) (n:=256) (by kernel_rfl) (by kernel_rfl) (by kernel_rfl) (by kernel_rfl) (by kernel_rfl) (by kernel_rfl) h2);clear h0 h1 h2 hL;have ht:∀ g cs,zb g=some cs->g=1:=fun g cs e=>by unfold zb at e; split at e; rfl; cases e
 have lt:∀ g k zs,FW W g k zs->g<W.heap.size:=fun g k zs e=>by
  obtain⟨t,fr,e⟩:=e;apply Classical.byContradiction;intro hn;rw[Array.getElem?_eq_none (by omega)] at e;cases e
 intro g hg;rcases hg with hg | hg | hg
 ·have h1:g=1:=by
   cases hg1:zb g with
   | none=>rw[hg1] at hg; cases hg
   | some cs=>exact ht g cs hg1
  subst h1;refine⟨rfl,sg.1,fun cs e j p hp=>?_,(fun e=>by cases e),fun k zs e=>by cases e⟩;have e:some (Mp.map fun z=>PV.str ⟨z.toArray⟩)=some cs:=e;injection e with e
  subst e;exact sg.2 j p hp
 ·have h0:g=0:=by unfold Jb at hg; exact Nat.eq_of_beq_eq_true hg
  subst h0;obtain⟨cs,hh,hs,hr⟩:=h.1 0 _ _ (by rw[Rb]; decide) Q8;obtain⟨ts,hts,_,hall⟩:=hr Q9;rw[Ra] at hts;cases hts;have h1:0<cs.size:=by rw[hs]; decide
  obtain⟨u,hu',hok⟩:=hall 0 cs[0] (by simp [h1]);have:u=3:=by simpa using hu'.symm
  subst this;have hcell:W.cell? ⟨0,0,none⟩=some cs[0]:=by simp [World.cell?,hh,h1]
  refine⟨rfl,?_,fun cs e=>absurd (ht 0 cs e) (by decide),fun _=>?_,fun k zs e=>by cases e⟩
  ·apply Classical.byContradiction;intro hn;have:W.heap[0]?=none:=Array.getElem?_eq_none (by omega);simp [this] at hh
  ·rw[hcell];unfold Cell.ok at hok;rw[Tryz.underlying3] at hok;cases hv:cs[0] <;> rw[hv] at hok <;> first | (obtain⟨rfl,_⟩:=hok; exact⟨_,rfl⟩) | exact hok.elim | simp at hok
 ·have hx:g=5\/g=2:=by
   unfold Jc at hg;split at hg
   ·exact .inl rfl
   ·exact .inr rfl
   ·cases hg
  rcases hx with hx | hx
  ·subst hx;exact⟨rfl,lt _ _ _ t1,fun cs e=>absurd (ht 5 cs e) (by decide),(fun e=>by cases e),fun k zs e=>by cases e; exact t1⟩
  ·subst hx;exact⟨rfl,lt _ _ _ t2,fun cs e=>absurd (ht 2 cs e) (by decide),(fun e=>by cases e),fun k zs e=>by cases e; exact t2⟩
end Go.Proofs.YtcppfkflcigjcaaGreatDoor
