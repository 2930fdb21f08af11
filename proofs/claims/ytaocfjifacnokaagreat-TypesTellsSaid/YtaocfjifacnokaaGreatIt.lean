import Derived.Test.YtaocfjifacnokaaGreatD12
import Derived.Test.YtaocfjifacnokaaGreatPlain
import Derived.Test.YtaocfjifacnokaaGreatE6
import Derived.Test.YtaocfjifacnokaaGreatProg
import Derived.KernelRfl
import Derived.RangeFuncNested
import Derived.RangeFuncBound
import Derived.RangeFuncCalls
import Derived.RangeFuncLeaves
import Derived.Shelf.Abstract
import Derived.Shelf.RegionOpen
import Derived.WalkKit
import Derived.OwnWalkIn
import Derived.TacticsInMore
import Derived.LoopNIn
import Derived.LoopIn
namespace Go.Proofs.YtaocfjifacnokaaGreat
open Go.Lad Go.RowKit
set_option linter.unusedVariables false
set_option linter.unusedSimpArgs false
noncomputable def wy:Iter:=⟨109,[.v (.d (.int .i64)),.a (eH 0)],[.int .i64,eH 0],oN,vK⟩
theorem JZ {P:Program}:∀ it ∈ ([]:List Iter),oL P it:=fun _ h=>nomatch h
theorem Ij {P:Program} {c:Iter} {l:List Iter} (h:oL P c) (t:∀ k ∈ l,oL P k):∀ k ∈ c :: l,oL P k:=fun k hk=>by
 rcases List.mem_cons.1 hk with rfl | hk
 ·exact h
 ·exact t k hk
theorem Ed {ol:List cY} {xs:List (Int × List UInt8 × Int × List ab)} (h:oN ol = some xs):∃ (t:TypeId) (l:List (List UInt8 × Int × List ab)),ol = [.box t [.v (.sl (eH 0)) l]] ∧ xs = kO l:=by
 unfold oN at h
 split at h
 ·rename_i t xs
  injection h with h
  exact⟨t,xs,rfl,h.symm⟩
 ·cases h
theorem Ik (ol:List cY) (xs) (h:oN ol = some xs) (k:Nat):∀ o ∈ vK ol k,o.gw = []:=by
 obtain⟨t,l,rfl,_⟩:=Ed h
 intro o ho
 have ho:o ∈ [cY.box t [.v (.sl (eH 0)) l]]:=ho
 simp only[List.mem_cons,List.not_mem_nil,or_false] at ho
 subst ho; rfl
theorem C5 (args:Array Value) (w:World):(callFunc 109 args).run Tryz.prog w = .ok (.enter 109 args) w:=mY (by kernel_rfl)
attribute [local go_sem] Oper.semAt_some
def ry (l:List (List PV)) (k:Nat):List Cmp:=[.v (.p (.int .i64 ((l.length:Int) - 1 - k))),.g ((l.getD (l.length - 1 - k) []).map .p)]
def iOf:Value → Nat
 | .int _ i=>(i + 1).toNat
 | _=>0
theorem Il (t:TypeId) (l:List (List PV)) (hz3:∀ r ∈ l,r.length = 3) (rows:List (List Cmp)) (hrows:rows = (List.range l.length).map (ry l)):qB Tryz.prog 109 rows (fun _=>[.box t [.p (.sl l)]]):=by
 intro w0 χ0 T0 a tm tg os lb lk m r I Jx W hχ hl htg hlb hlen hond hY ⟨hp0,G0,hI0,h0⟩
 have hL:rows.length = l.length:=by rw[hrows]; simp
 have hget:∀ k (h:k < l.length),rows[k]? = some (ry l k):=fun k h=>by
  rw[hrows,List.getElem?_map,List.getElem?_range h]; rfl
 clear hrows
 match os,hlen 0,hond with
 | [ot],_,hond =>
 have hv:SRd G0 _ W (tm tg) (a.tmps.getD tg undef):=h0.rep.tms tg
 rw[htg] at hv
 have hval:=LRd.val (show LRd G0 _ W (.fn (2 * 109) [ot]) (a.tmps.getD tg undef) from hv)
 have hlb2:lb = #[ptr (G0.bl ot) 0]:=by
  have h1:a.tmps.getD tg undef = fnV (2 * 109) ([ot].map fun o=>ptr (G0.bl o) 0):=hval
  rw[nZ,hlb] at h1
  injection h1 with _ _ h1
 subst hlb2
 obtain⟨A,c,z,hc0,hsl0⟩:∃ A c z,W.cell? ⟨G0.bl ot,0,none⟩ = some (.slice A l.length c) ∧ l.length ≤ 9223372036854775807:=by
  obtain⟨vs,hb,_,hall⟩:=h0.rep.gn ot (.box t [.p (.sl l)]) (by simp [nS,ae])
  have h1:=hall.1
  match vs,h1 with
  | [v],_ =>
   have h2:Rd (In G0.χ 0) W (.sl l) v:=(hall.2 0 _ v rfl rfl).val
   obtain⟨A,c,z,rfl,hsl,_⟩:=Rd.sG h2
   exact⟨A,c,z,by rw[hb.cell]; rfl,Nat.le_trans hsl.cap hsl.max⟩
 refine callsIn_of_wp Tryz.func109 rfl trivial ?_ rfl
 simp only[Tryz.ntmps109,ptr,List.size_toArray,List.length_cons,List.length_nil,Nat.reduceAdd,Nat.reduceSub,Array.replicate_succ,Array.replicate_zero,List.push_toArray,List.append_toArray,List.nil_append,List.cons_append]
 gi_wp2
 gi_loopw [3] (fun p wr=>∃ (k:Nat) (hp:Hp) (G:Gh),k ≤ l.length ∧ p = .int .i64 ((l.length:Int) - 1 - k) ∧ I k hp ∧ Ab w0 χ0 T0 ⟨tm,nS [ot] [dv.box t [.p (.sl l)]] hp⟩ a lk r G wr)
  (fun p wr=>iOf p)
 case atStart=>exact⟨0,hp0,G0,Nat.zero_le _,by simp,hI0,h0⟩
 case round =>
  obtain⟨k,hp,G,hkl,rfl,hIk,hk⟩:=hrel
  have hr:=hk.rep
  have hv2:SRd G _ wr (tm tg) (a.tmps.getD tg undef):=hr.tms tg
  rw[htg] at hv2
  have hval2:=LRd.val (show LRd G _ wr (.fn (2 * 109) [ot]) (a.tmps.getD tg undef) from hv2)
  have hadr:G.bl ot = G0.bl ot:=by
   have h1:a.tmps.getD tg undef = fnV (2 * 109) ([ot].map fun o=>ptr (G.bl o) 0):=hval2
   rw[nZ,hlb] at h1
   injection h1 with _ _ h1
   simp [ptr] at h1
   exact h1.symm
  obtain⟨vs,hb,_,hall⟩:=hr.gn ot (.box t [.p (.sl l)]) (by simp [nS,ae])
  rw[hadr] at hb
  obtain⟨v,hc1,hrd⟩:∃ v,wr.cell? ⟨G0.bl ot,0,none⟩ = some v ∧ Rd (In G.χ 0) wr (.sl l) v:=by
   have h1:=hall.1
   match vs,h1 with
   | [v],_=>exact⟨v,by rw[hb.cell]; rfl,(hall.2 0 _ v rfl rfl).val⟩
  by_cases hend:k = l.length
  ·subst hend
   have hneg:¬ ((0:Int) ≤ (l.length:Int) - 1 - (l.length:Int)):=by omega
   gi_wp2
   go_end0
   refine⟨⟨_,rfl⟩,.inl ⟨hp,?_,G,?_⟩⟩
   ·first | exact hIk | (rw[hL]; exact hIk)
   ·first | exact hk | (rw[hL]; exact hk)
  ·have hk':k < l.length:=by omega
   have hkr:k < rows.length:=by rw[hL]; exact hk'
   have hpos:(0:Int) ≤ (l.length:Int) - 1 - (k:Int):=by omega
   have hj:((l.length:Int) - 1 - (k:Int)).toNat = l.length - 1 - k:=by omega
   have hjl:l.length - 1 - k < l.length:=by omega
   cases hrd with
   | sl0 _ _=>simp at hjl
   | @sl _ b off c' z us h0' hF hbl hc hm hz hcell hrd =>
    have hz3':z = 3:=by
     have h1:=hz (l.length - 1 - k) _ (List.getElem?_eq_getElem hjl)
     rw[← h1]; exact hz3 _ (List.getElem_mem _)
    subst hz3'
    have hlen3:(l[l.length - 1 - k]).length = 3:=hz3 _ (List.getElem_mem _)
    obtain⟨p0,p1,p2,hrow⟩:∃ p0 p1 p2,l[l.length - 1 - k] = [p0,p1,p2]:=by
     match l[l.length - 1 - k],hlen3 with
     | [p0,p1,p2],_=>exact⟨p0,p1,p2,rfl⟩
    have hg:l[l.length - 1 - k]? = some [p0,p1,p2]:=by rw[List.getElem?_eq_getElem hjl,hrow]
    have c0:=hcell _ 0 _ p0 hg rfl
    rw[Nat.add_zero] at c0
    have c1:=hcell _ 1 _ p1 hg rfl
    have c2:=hcell _ 2 _ p2 hg rfl
    have r0:=hrd _ 0 _ p0 hg rfl
    have r1:=hrd _ 1 _ p1 hg rfl
    have r2:=hrd _ 2 _ p2 hg rfl
    have hgk:rows[k] = [.v (.p (.int .i64 ((l.length:Int) - 1 - k))),.g [.p p0,.p p1,.p p2]]:=by
     have h1:=hget k hk'
     rw[List.getElem?_eq_getElem hkr] at h1
     rw[Option.some.inj h1]
     unfold ry
     rw[List.getD_eq_getElem?_getD,hg]; rfl
    have hvs:dV (CRd G (nS [ot] [dv.box t [.p (.sl l)]] hp) wr) rows[k] [.int .i64 ((l.length:Int) - 1 - k),.agg #[us (l.length - 1 - k) 0,us (l.length - 1 - k) 1,us (l.length - 1 - k) 2]]:=by
     rw[hgk]
     refine⟨rfl,fun i x v hx hv=>?_⟩
     match i,hx,hv with
     | 0,hx,hv =>
      simp at hx hv
      subst hx hv
      exact⟨rfl,by simp [aJ.ids],.int ⟨by show (-9223372036854775808:Int) ≤ _; omega,by show _ ≤ (9223372036854775807:Int); omega⟩⟩
     | 1,hx,hv =>
      simp at hx hv
      subst hx hv
      refine⟨[_,_,_],rfl,rfl,fun j y u hy hu=>?_⟩
      match j,hy,hu with
      | 0,hy,hu=>simp at hy hu; subst hy hu; exact⟨r0.one,by simp [aJ.ids],r0⟩
      | 1,hy,hu=>simp at hy hu; subst hy hu; exact⟨r1.one,by simp [aJ.ids],r1⟩
      | 2,hy,hu=>simp at hy hu; subst hy hu; exact⟨r2.one,by simp [aJ.ids],r2⟩
    obtain⟨fn,tmps,assign,body,hy,hR⟩:=hY (m - 1) k hkr hp G wr _ hIk hk hvs
    gi_wp2
    refine⟨by simp [Fence.wide],hR.mono fun e' w' hq=>?_⟩
    rcases hq with⟨rfl,hp',G',hI',hk2⟩ | ⟨rfl,hJ⟩
    ·have hlo:(l.length:Int) - 1 - (k:Int) - 1 = (l.length:Int) - 1 - ((k + 1:Nat):Int):=by omega
     gi_wp2
     refine⟨⟨k + 1,hp',G',hk',?_,hI',hk2⟩,?_⟩
     ·first | rfl | (rw[hlo]) | (congr 1)
     ·show iOf _ < iOf _
      simp [iOf]
      omega
    ·gi_wp2
     (try simp only[Exit.inBlock,Exit.then])
     refine bodyPost_ret (results_none rfl _ _ _) rfl ?_
     exact⟨⟨_,rfl⟩,.inr hJ⟩
theorem sE {α:Type} (l:List α):(kO l).length = l.length:=by unfold kO; simp
theorem FF {α:Type} (l:List α) (k:Nat) (h:k < l.length):(kO l)[k]'(by rw[sE]; exact h) = (((l.length - 1 - k:Nat):Int),l[l.length - 1 - k]'(by omega)):=by
 unfold kO
 simp
theorem Lt (i:Int) (s:(eH 0).den):(wy.row (i,s)).map TC.un = [.v (.p (.int .i64 i)),.g ((enc (eH 0) s).map .p)]:=by
 rw[← gO]; rfl
def J0 (x:List UInt8 × Int × List ab):List PV:=enc (eH 0) x
noncomputable def Mu (x:Int × List UInt8 × Int × List ab):List Cmp:=(wy.row x).map TC.un
theorem FG (l:List (List UInt8 × Int × List ab)):(kO l).map Mu = (List.range (l.map (J0)).length).map (ry (l.map (J0))):=by
 apply List.ext_getElem
 ·simp [sE]
 ·intro k h1 h2
  have hk:k < l.length:=by simpa [sE] using h1
  rw[List.getElem_map,List.getElem_map,FF l k hk,List.getElem_range]
  refine (show _ = [.v (.p (.int .i64 ((l.length - 1 - k:Nat):Int))),.g ((J0 (l[l.length - 1 - k]'(by omega))).map .p)] from Lt _ _).trans ?_
  unfold ry
  rw[List.length_map,List.getD_eq_getElem?_getD,List.getElem?_map,List.getElem?_eq_getElem (show l.length - 1 - k < l.length by omega)]
  have e:((l.length - 1 - k:Nat):Int) = (l.length:Int) - 1 - k:=by omega
  rw[e]; rfl
theorem FH (ol:List cY) (xs:List (Int × List UInt8 × Int × List ab)) (h:oN ol = some xs):qB Tryz.prog 109 (xs.map fun x=>(wy.row x).map TC.un) (fun k=>(vK ol k).map cY.un):=by
 obtain⟨t,l,rfl,rfl⟩:=Ed h
 show qB _ _ ((kO l).map Mu) _
 exact Il t (l.map J0) (fun r hr=>by obtain⟨x,_,rfl⟩:=List.mem_map.1 hr; exact kk _ _) _ (FG l)
theorem FI:oL Tryz.prog wy:=⟨C5,FH,fun _ _ _=>rfl,fun _ _ _ _=>rfl,Ik⟩
end Go.Proofs.YtaocfjifacnokaaGreat
