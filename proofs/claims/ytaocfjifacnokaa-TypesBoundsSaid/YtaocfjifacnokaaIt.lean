import Derived.Test.YtaocfjifacnokaaD12
import Derived.Test.YtaocfjifacnokaaPlain
import Derived.Test.YtaocfjifacnokaaE6
import Derived.Test.YtaocfjifacnokaaProg
import Derived.KernelRfl
import Derived.RangeFuncNested
import Derived.RangeFuncBound
import Derived.RangeFuncCalls
import Derived.RangeFuncLeaves
import Derived.Shelf.Abstract
import Derived.Shelf.RegionOpen
import Derived.WalkKit
import Derived.OwnWalkIn
import Derived.TacticsInMore
import Derived.LoopNIn
import Derived.LoopIn
namespace Go.Proofs.Ytaocfjifacnokaa
open Go.Lad Go.RowKit
set_option linter.unusedVariables false
set_option linter.unusedSimpArgs false
noncomputable def itBack:Iter:=⟨76,[.v (.d (.int .i64)),.a (Ubody 0)],[.int .i64,Ubody 0],itBackFn,itBackAt⟩
theorem its_nil {P:Program}:∀ it ∈ ([]:List Iter),IterOK P it:=fun _ h=>nomatch h
theorem its_cons {P:Program} {c:Iter} {l:List Iter} (h:IterOK P c) (t:∀ k ∈ l,IterOK P k):∀ k ∈ c :: l,IterOK P k:=fun k hk=>by
 rcases List.mem_cons.1 hk with rfl | hk
 ·exact h
 ·exact t k hk
theorem back_in {ol:List TObj} {xs:List (Int × List UInt8 × Int × List FieldT)} (h:itBackFn ol = some xs):∃ (t:TypeId) (l:List (List UInt8 × Int × List FieldT)),ol = [.box t [.v (.sl (Ubody 0)) l]] ∧ xs = backL l:=by
 unfold itBackFn at h
 split at h
 ·rename_i t xs
  injection h with h
  exact⟨t,xs,rfl,h.symm⟩
 ·cases h
theorem back_ids (ol:List TObj) (xs) (h:itBackFn ol = some xs) (k:Nat):∀ o ∈ itBackAt ol k,o.idsT = []:=by
 obtain⟨t,l,rfl,_⟩:=back_in h
 intro o ho
 have ho:o ∈ [TObj.box t [.v (.sl (Ubody 0)) l]]:=ho
 simp only[List.mem_cons,List.not_mem_nil,or_false] at ho
 subst ho; rfl
theorem back_enter (args:Array Value) (w:World):(callFunc 76 args).run Try.prog w = .ok (.enter 76 args) w:=run_callFunc (by kernel_rfl)
attribute [local go_sem] Oper.semAt_some
def backRow (l:List (List PV)) (k:Nat):List Cmp:=[.v (.p (.int .i64 ((l.length:Int) - 1 - k))),.g ((l.getD (l.length - 1 - k) []).map .p)]
def iOf:Value → Nat
 | .int _ i=>(i + 1).toNat
 | _=>0
theorem back_law (t:TypeId) (l:List (List PV)) (hz3:∀ r ∈ l,r.length = 3) (rows:List (List Cmp)) (hrows:rows = (List.range l.length).map (backRow l)):IterLaw Try.prog 76 rows (fun _=>[.box t [.p (.sl l)]]):=by
 intro w0 χ0 T0 a tm tg os lb lk m r I Jx W hχ hl htg hlb hlen hond hY ⟨hp0,G0,hI0,h0⟩
 have hL:rows.length = l.length:=by rw[hrows]; simp
 have hget:∀ k (h:k < l.length),rows[k]? = some (backRow l k):=fun k h=>by
  rw[hrows,List.getElem?_map,List.getElem?_range h]; rfl
 clear hrows
 match os,hlen 0,hond with
 | [ot],_,hond =>
 have hv:SRd G0 _ W (tm tg) (a.tmps.getD tg undef):=h0.rep.tms tg
 rw[htg] at hv
 have hval:=LRd.val (show LRd G0 _ W (.fn (2 * 76) [ot]) (a.tmps.getD tg undef) from hv)
 have hlb2:lb = #[ptr (G0.bl ot) 0]:=by
  have h1:a.tmps.getD tg undef = fnV (2 * 76) ([ot].map fun o=>ptr (G0.bl o) 0):=hval
  rw[fnV_even,hlb] at h1
  injection h1 with _ _ h1
 subst hlb2
 obtain⟨A,c,z,hc0,hsl0⟩:∃ A c z,W.cell? ⟨G0.bl ot,0,none⟩ = some (.slice A l.length c) ∧ l.length ≤ 9223372036854775807:=by
  obtain⟨vs,hb,_,hall⟩:=h0.rep.objs ot (.box t [.p (.sl l)]) (by simp [capsF,lookL])
  have h1:=hall.1
  match vs,h1 with
  | [v],_ =>
   have h2:Rd (In G0.χ 0) W (.sl l) v:=(hall.2 0 _ v rfl rfl).val
   obtain⟨A,c,z,rfl,hsl,_⟩:=Rd.to_sl h2
   exact⟨A,c,z,by rw[hb.cell]; rfl,Nat.le_trans hsl.cap hsl.max⟩
 refine callsIn_of_wp Try.func76 rfl trivial ?_ rfl
 simp only[Try.ntmps76,ptr,List.size_toArray,List.length_cons,List.length_nil,Nat.reduceAdd,Nat.reduceSub,Array.replicate_succ,Array.replicate_zero,List.push_toArray,List.append_toArray,List.nil_append,List.cons_append]
 gi_wp2
 gi_loopw [3] (fun p wr=>∃ (k:Nat) (hp:Hp) (G:Gh),k ≤ l.length ∧ p = .int .i64 ((l.length:Int) - 1 - k) ∧ I k hp ∧ AtRec w0 χ0 T0 ⟨tm,capsF [ot] [HObj.box t [.p (.sl l)]] hp⟩ a lk r G wr)
  (fun p wr=>iOf p)
 case atStart=>exact⟨0,hp0,G0,Nat.zero_le _,by simp,hI0,h0⟩
 case round =>
  obtain⟨k,hp,G,hkl,rfl,hIk,hk⟩:=hrel
  have hr:=hk.rep
  have hv2:SRd G _ wr (tm tg) (a.tmps.getD tg undef):=hr.tms tg
  rw[htg] at hv2
  have hval2:=LRd.val (show LRd G _ wr (.fn (2 * 76) [ot]) (a.tmps.getD tg undef) from hv2)
  have hadr:G.bl ot = G0.bl ot:=by
   have h1:a.tmps.getD tg undef = fnV (2 * 76) ([ot].map fun o=>ptr (G.bl o) 0):=hval2
   rw[fnV_even,hlb] at h1
   injection h1 with _ _ h1
   simp [ptr] at h1
   exact h1.symm
  obtain⟨vs,hb,_,hall⟩:=hr.objs ot (.box t [.p (.sl l)]) (by simp [capsF,lookL])
  rw[hadr] at hb
  obtain⟨v,hc1,hrd⟩:∃ v,wr.cell? ⟨G0.bl ot,0,none⟩ = some v ∧ Rd (In G.χ 0) wr (.sl l) v:=by
   have h1:=hall.1
   match vs,h1 with
   | [v],_=>exact⟨v,by rw[hb.cell]; rfl,(hall.2 0 _ v rfl rfl).val⟩
  by_cases hend:k = l.length
  ·subst hend
   have hneg:¬ ((0:Int) ≤ (l.length:Int) - 1 - (l.length:Int)):=by omega
   gi_wp2
   go_end0
   refine⟨⟨_,rfl⟩,.inl ⟨hp,?_,G,?_⟩⟩
   ·first | exact hIk | (rw[hL]; exact hIk)
   ·first | exact hk | (rw[hL]; exact hk)
  ·have hk':k < l.length:=by omega
   have hkr:k < rows.length:=by rw[hL]; exact hk'
   have hpos:(0:Int) ≤ (l.length:Int) - 1 - (k:Int):=by omega
   have hj:((l.length:Int) - 1 - (k:Int)).toNat = l.length - 1 - k:=by omega
   have hjl:l.length - 1 - k < l.length:=by omega
   cases hrd with
   | sl0 _ _=>simp at hjl
   | @sl _ b off c' z us h0' hF hbl hc hm hz hcell hrd =>
    have hz3':z = 3:=by
     have h1:=hz (l.length - 1 - k) _ (List.getElem?_eq_getElem hjl)
     rw[← h1]; exact hz3 _ (List.getElem_mem _)
    subst hz3'
    have hlen3:(l[l.length - 1 - k]).length = 3:=hz3 _ (List.getElem_mem _)
    obtain⟨p0,p1,p2,hrow⟩:∃ p0 p1 p2,l[l.length - 1 - k] = [p0,p1,p2]:=by
     match l[l.length - 1 - k],hlen3 with
     | [p0,p1,p2],_=>exact⟨p0,p1,p2,rfl⟩
    have hg:l[l.length - 1 - k]? = some [p0,p1,p2]:=by rw[List.getElem?_eq_getElem hjl,hrow]
    have c0:=hcell _ 0 _ p0 hg rfl
    rw[Nat.add_zero] at c0
    have c1:=hcell _ 1 _ p1 hg rfl
    have c2:=hcell _ 2 _ p2 hg rfl
    have r0:=hrd _ 0 _ p0 hg rfl
    have r1:=hrd _ 1 _ p1 hg rfl
    have r2:=hrd _ 2 _ p2 hg rfl
    have hgk:rows[k] = [.v (.p (.int .i64 ((l.length:Int) - 1 - k))),.g [.p p0,.p p1,.p p2]]:=by
     have h1:=hget k hk'
     rw[List.getElem?_eq_getElem hkr] at h1
     rw[Option.some.inj h1]
     unfold backRow
     rw[List.getD_eq_getElem?_getD,hg]; rfl
    have hvs:All2 (CRd G (capsF [ot] [HObj.box t [.p (.sl l)]] hp) wr) rows[k] [.int .i64 ((l.length:Int) - 1 - k),.agg #[us (l.length - 1 - k) 0,us (l.length - 1 - k) 1,us (l.length - 1 - k) 2]]:=by
     rw[hgk]
     refine⟨rfl,fun i x v hx hv=>?_⟩
     match i,hx,hv with
     | 0,hx,hv =>
      simp at hx hv
      subst hx hv
      exact⟨rfl,by simp [Leaf.ids],.int ⟨by show (-9223372036854775808:Int) ≤ _; omega,by show _ ≤ (9223372036854775807:Int); omega⟩⟩
     | 1,hx,hv =>
      simp at hx hv
      subst hx hv
      refine⟨[_,_,_],rfl,rfl,fun j y u hy hu=>?_⟩
      match j,hy,hu with
      | 0,hy,hu=>simp at hy hu; subst hy hu; exact⟨r0.one,by simp [Leaf.ids],r0⟩
      | 1,hy,hu=>simp at hy hu; subst hy hu; exact⟨r1.one,by simp [Leaf.ids],r1⟩
      | 2,hy,hu=>simp at hy hu; subst hy hu; exact⟨r2.one,by simp [Leaf.ids],r2⟩
    obtain⟨fn,tmps,assign,body,hy,hR⟩:=hY (m - 1) k hkr hp G wr _ hIk hk hvs
    gi_wp2
    refine⟨by simp [Fence.wide],hR.mono fun e' w' hq=>?_⟩
    rcases hq with⟨rfl,hp',G',hI',hk2⟩ | ⟨rfl,hJ⟩
    ·have hlo:(l.length:Int) - 1 - (k:Int) - 1 = (l.length:Int) - 1 - ((k + 1:Nat):Int):=by omega
     gi_wp2
     refine⟨⟨k + 1,hp',G',hk',?_,hI',hk2⟩,?_⟩
     ·first | rfl | (rw[hlo]) | (congr 1)
     ·show iOf _ < iOf _
      simp [iOf]
      omega
    ·gi_wp2
     (try simp only[Exit.inBlock,Exit.then])
     refine bodyPost_ret (results_none rfl _ _ _) rfl ?_
     exact⟨⟨_,rfl⟩,.inr hJ⟩
theorem backL_len {α:Type} (l:List α):(backL l).length = l.length:=by unfold backL; simp
theorem backL_get {α:Type} (l:List α) (k:Nat) (h:k < l.length):(backL l)[k]'(by rw[backL_len]; exact h) = (((l.length - 1 - k:Nat):Int),l[l.length - 1 - k]'(by omega)):=by
 unfold backL
 simp
theorem row_un (i:Int) (s:(Ubody 0).den):(itBack.row (i,s)).map TC.un = [.v (.p (.int .i64 i)),.g ((enc (Ubody 0) s).map .p)]:=by
 rw[← leaves_un]; rfl
def encU (x:List UInt8 × Int × List FieldT):List PV:=enc (Ubody 0) x
noncomputable def rowU (x:Int × List UInt8 × Int × List FieldT):List Cmp:=(itBack.row x).map TC.un
theorem back_rows (l:List (List UInt8 × Int × List FieldT)):(backL l).map rowU = (List.range (l.map (encU)).length).map (backRow (l.map (encU))):=by
 apply List.ext_getElem
 ·simp [backL_len]
 ·intro k h1 h2
  have hk:k < l.length:=by simpa [backL_len] using h1
  rw[List.getElem_map,List.getElem_map,backL_get l k hk,List.getElem_range]
  refine (show _ = [.v (.p (.int .i64 ((l.length - 1 - k:Nat):Int))),.g ((encU (l[l.length - 1 - k]'(by omega))).map .p)] from row_un _ _).trans ?_
  unfold backRow
  rw[List.length_map,List.getD_eq_getElem?_getD,List.getElem?_map,List.getElem?_eq_getElem (show l.length - 1 - k < l.length by omega)]
  have e:((l.length - 1 - k:Nat):Int) = (l.length:Int) - 1 - k:=by omega
  rw[e]; rfl
theorem back_law2 (ol:List TObj) (xs:List (Int × List UInt8 × Int × List FieldT)) (h:itBackFn ol = some xs):IterLaw Try.prog 76 (xs.map fun x=>(itBack.row x).map TC.un) (fun k=>(itBackAt ol k).map TObj.un):=by
 obtain⟨t,l,rfl,rfl⟩:=back_in h
 show IterLaw _ _ ((backL l).map rowU) _
 exact back_law t (l.map encU) (fun r hr=>by obtain⟨x,_,rfl⟩:=List.mem_map.1 hr; exact enc_len _ _) _ (back_rows l)
theorem itBack_ok:IterOK Try.prog itBack:=⟨back_enter,back_law2,fun _ _ _=>rfl,fun _ _ _ _=>rfl,back_ids⟩
end Go.Proofs.Ytaocfjifacnokaa
