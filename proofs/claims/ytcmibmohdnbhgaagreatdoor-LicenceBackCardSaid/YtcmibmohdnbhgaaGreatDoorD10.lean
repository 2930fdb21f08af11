import Derived.Test.YtcmibmohdnbhgaaGreatDoorD9
namespace Go.Lad
set_option linter.unusedVariables false
set_option linter.unusedSimpArgs false
open Go.RowKit
section
variable {ρ:Type} {E:Env} {Γ:Opt} {fx cur:TSt} {r:ρ}
def Stepped (P:Program) (Γ:Opt) (fx cur:TSt) (o:Oper) (k:KE ρ) (r:ρ):Prop :=
 ∃ x wr,k x wr = some r ∧ stepA P Γ (un2 fx cur) o fun e=>(un2 fx cur).app o.dst e = un2 fx (appT cur o.dst x wr)
theorem step_did {P:Program} {o:Oper} {op':Option Eff} {k:KE ρ} (hno:noObj Γ (un2 fx cur) o) (hd:Did op' k r) (hx:opX P Γ (un2 fx cur) o = op') (hnc:∀ c f,o.op = .call c → c.callee ≠ .value f):Stepped P Γ fx cur o k r:=by
 obtain⟨x,wr,c,h1,h2,h3⟩:=hd
 refine⟨x,wr,h1,?_⟩
 unfold stepA
 split
 ·rename_i f a t heq
  exact absurd rfl (hnc _ f heq)
 ·rw[hx,h2]
  exact⟨h3,hno,app_un o.dst x wr c⟩
theorem step_l {P:Program} {o:Oper} {a b:Option Eff} {k:KE ρ} (hno:noObj Γ (un2 fx cur) o) (hd:Did a k r) (hx:opX P Γ (un2 fx cur) o = orE a b) (hnc:∀ c f,o.op = .call c → c.callee ≠ .value f):Stepped P Γ fx cur o k r:=by
 refine step_did hno hd ?_ hnc
 obtain⟨x,wr,c,h1,h2,h3⟩:=hd
 rw[hx,h2]; rfl
theorem step_r {P:Program} {o:Oper} {a b:Option Eff} {k:KE ρ} (hno:noObj Γ (un2 fx cur) o) (hd:Did b k r) (ha:a = none) (hx:opX P Γ (un2 fx cur) o = orE a b) (hnc:∀ c f,o.op = .call c → c.callee ≠ .value f):Stepped P Γ fx cur o k r:=by
 refine step_did hno hd ?_ hnc
 rw[hx,ha]; rfl
theorem arg_fun:(un2 fx cur).arg = fun x=>argU fx cur (evT fx cur constT x):=by
 funext x
 unfold St.arg argU
 rw[ev_un]
theorem arr1 {α:Type} {a:Array α} {l:List α} (h:a.toList = l):a = l.toArray:=by cases a; simp_all
theorem conOf_ok {Φ:List Con} {sel:List (Nat × Nat)} {f:FuncId} {d:Nat} {con:Con} (h:conOf Φ sel f d = some con):con ∈ Φ ∧ con.f = f:=by
 unfold conOf at h
 split at h
 ·split at h
  ·rename_i c hc
   cases hb:Nat.beq c.f f with
   | true =>
    rw[hb] at h
    simp only[cond_true,Option.some.injEq] at h
    subst h
    rw[beqN,decide_eq_true_eq] at hb
    exact⟨List.mem_of_getElem? hc,hb⟩
   | false=>rw[hb] at h; cases h
  ·cases h
 ·have h1:=List.mem_of_find?_eq_some h
  have h2:=List.find?_some h
  rw[beqN,decide_eq_true_eq] at h2
  exact⟨h1,h2⟩
set_option maxHeartbeats 1000000 in
theorem cids_un (c:TC):c.un.ids = c.leaves.flatMap TL.idsT:=by
 have hl:∀ x:TL,x.un.ids = x.idsT:=fun x=>by
  cases x with
  | v t x =>
   show (Leaf.ids (match enc t x with | [p]=>.p p | _=>.dead)) = []
   split <;> rfl
  | _=>rfl
 unfold Cmp.ids
 rw[leavesC_un]
 induction c.leaves with
 | nil=>rfl
 | cons x l ih=>rw[List.map_cons,List.flatMap_cons,List.flatMap_cons,ih,hl]
theorem ids_un (x:TSl):x.un.ids = x.idsT:=by
 cases x with
 | dead=>rfl
 | c x=>exact cids_un x
 | t l =>
  show (l.map TC.un).flatMap Cmp.ids = l.flatMap fun c=>c.leaves.flatMap TL.idsT
  induction l with
  | nil=>rfl
  | cons x l ih=>rw[List.map_cons,List.flatMap_cons,List.flatMap_cons,ih,cids_un]
theorem opT0_ok {o:Oper} {k:KE ρ} (hΦ:∀ con ∈ E.Φ,ConOK E.P con) (hΓ:Γ.hs = E.hs ∧ Γ.fz = E.zs ∧ Γ.mv = E.ns ∧ Γ.bx = E.bs) (hno:noObj Γ (un2 fx cur) o) (h:opT0 E fx o.op o.dst cur k = some r):Stepped E.P Γ fx cur o k r:=by
 obtain⟨dst,op,type,pos,after,g⟩:=o
 have hin:inL Γ.fz dst = atZs E dst:=by
  unfold inL atZs
  rw[hΓ.2.1]
  cases dst with
  | none=>rfl
  | some d =>
   dsimp only
   rw[Bool.eq_iff_iff,hasN_iff]
   simp
 cases op with
 | move x=>exact step_did hno (move_ok h) (by unfold opX opE opY; simp [isFz,isBuild,isTake,opY0,opV,Op.opds,orE_r,orE_l,Function.comp_def,St.arg,ev_un]) (by simp)
 | assign x=>exact step_did hno (move_ok h) (by unfold opX opE opY; simp [isFz,isBuild,isTake,opY0,opV,Op.opds,orE_r,orE_l,Function.comp_def,St.arg,ev_un]) (by simp)
 | pick c x y=>exact step_did hno (pick_ok h) (by unfold opX opE opY; simp [isFz,isBuild,isTake,opY0,opV,Op.opds,orE_r,orE_l,Function.comp_def,St.arg,ev_un]) (by simp)
 | alloc t =>
  unfold opT0 at h
  dsimp only at h
  split at h
  ·rename_i hz
   exact nomatch h
  ·rename_i hz
   exact step_did hno (alloc_ok h) (by rw[opX_nf (by dsimp only; rw[hin,hz]; rfl)]; unfold opE opY; simp [opY0,Op.opds,orE_r,orE_l]) (by simp)
 | load t x=>exact step_did hno (load_ok h) (by unfold opX opE opY; simp [isFz,isBuild,isTake,opY0,opV,Op.opds,orE_r,orE_l,Function.comp_def,St.arg,ev_un,argU]) (by simp)
 | store t x v=>exact step_did hno (store_ok h) (by unfold opX opE opY; simp [isFz,isBuild,isTake,opY0,opV,Op.opds,orE_r,orE_l,Function.comp_def,St.arg,ev_un,argU]) (by simp)
 | nilCheck x=>exact step_did hno (nil_ok h) (by unfold opX opE opY; simp [isFz,isBuild,isTake,opY0,opV,Op.opds,orE_r,orE_l,Function.comp_def,St.arg,ev_un]) (by simp)
 | fieldAddr t x f=>exact step_did hno (fieldAddr_ok h) (by unfold opX opE opY; simp [isFz,isBuild,isTake,opY0,opV,Op.opds,orE_r,orE_l,Function.comp_def,St.arg,ev_un]) (by simp)
 | field t x f=>exact step_did hno (field_ok h) (by unfold opX opE opY; simp [isFz,isBuild,isTake,opY0,opV,Op.opds,orE_r,orE_l,Function.comp_def,St.arg,ev_un]) (by simp)
 | indexAddr t x i =>
  have hX:opX E.P Γ (un2 fx cur) ⟨dst,.indexAddr t x i,type,pos,after,g⟩ = orE (opIndexAddr E.P t [argU fx cur (evT fx cur constT x),argU fx cur (evT fx cur constT i)]) (opIdxV E.P t [argU fx cur (evT fx cur constT x),argU fx cur (evT fx cur constT i)]):=by
   unfold opX opE opY; simp [isFz,isBuild,isTake,opV,Op.opds,St.arg,ev_un,argU]
  have h:tIdx E.P fx cur t (evT fx cur constT x) (evT fx cur constT i) k = some r:=h
  unfold tIdx at h
  split at h
  ·rename_i m e hu
   refine step_r hno (idxV_ok hu h) ?_ hX (by simp)
   have hne:tyElem E.P t = none:=by unfold tyElem; rw[hu]
   unfold opIndexAddr
   split <;> first | rfl | rw[hne]
  ·exact step_l hno (indexAddr_ok h) hX (by simp)
 | index t x i=>exact step_did hno (index_ok h) (by unfold opX opE opY; simp [isFz,isBuild,isTake,opY0,opV,Op.opds,orE_r,orE_l,Function.comp_def,St.arg,ev_un]) (by simp)
 | binOp b t x y t' =>
  unfold opT0 at h
  dsimp only at h
  split at h
  ·rename_i hz
   split at h
   ·rename_i hb
    obtain⟨_,h⟩:=nilO_ok h
    refine step_did hno h ?_ (by simp)
    have ht:isTake (.binOp b t x y t') = true:=by cases b <;> first | rfl | cases hb
    rw[opX_t (by dsimp only; rw[hin,hz]; exact ht)]
    simp [opTk,Op.opds,St.arg,ev_un,argU]
   ·obtain⟨rfl,x',wr,c,h1,h2,h3⟩:=addW_ok h
    refine step_did (op':=some ⟨c,x'.un,unHp wr⟩) hno ⟨x',wr,c,h1,rfl,h3⟩ ?_ (by simp)
    rw[opX_z (by dsimp only; rw[hin,hz]; rfl)]
    show opAddW _ = _
    rw[← h2]
    simp [Op.opds,ev_un]
  ·rename_i hz
   have hX:opX E.P Γ (un2 fx cur) ⟨dst,.binOp b t x y t',type,pos,after,g⟩ = orE (opBin E.P b t [(evT fx cur constT x).un,(evT fx cur constT y).un]) (opES E.P b t [(evT fx cur constT x).un,(evT fx cur constT y).un]):=by
    rw[opX_nf (by dsimp only; rw[hin,hz]; rfl)]
    unfold opE opY; simp [opY0,opV,Op.opds,Function.comp_def,St.arg,ev_un]
   split at h
   ·rename_i xs ys hx hy
    obtain⟨y',wr,c,h1,h2,h3⟩:=eqS_ok h
    refine step_did (op':=some ⟨c,y'.un,unHp wr⟩) hno ⟨y',wr,c,h1,rfl,h3⟩ ?_ (by simp)
    rw[hX,hx,hy]
    have h4:opES E.P b t [TSl.un (.c (.g xs)),TSl.un (.c (.g ys))] = some ⟨c,y'.un,unHp wr⟩:=by unfold opES; rw[h2]
    rw[h4]
    rfl
   ·split at h
    ·obtain⟨h5,h6,h7⟩:=sh_ok (P:=E.P) (t:=t) h
     obtain⟨y',wr,c,h1,h2,h3⟩:=h7
     refine step_did (op':=some ⟨c,y'.un,unHp wr⟩) hno ⟨y',wr,c,h1,rfl,h3⟩ ?_ (by simp)
     rw[hX,h5]
     show opES E.P b t _ = _
     unfold opES
     rw[h6,h2]
    ·obtain⟨y',wr,c,h1,h2,h3⟩:=bin_ok h
     refine step_did (op':=some ⟨c,y'.un,unHp wr⟩) hno ⟨y',wr,c,h1,rfl,h3⟩ ?_ (by simp)
     rw[hX,h2]; rfl
 | unOp b t x=>exact step_did hno (un_ok h) (by unfold opX opE opY; simp [isFz,isBuild,isTake,opY0,opV,Op.opds,orE_r,orE_l,Function.comp_def,St.arg,ev_un]) (by simp)
 | extract x i=>exact step_did hno (extract_ok h) (by unfold opX opE opY; simp [isFz,isBuild,isTake,opY0,opV,Op.opds,orE_r,orE_l,Function.comp_def,St.arg,ev_un]) (by simp)
 | build t ps=>exact step_did hno (build_ok h) (by unfold opX opE opY; simp [isFz,isBuild,isTake,opY0,opV,Op.opds,orE_r,orE_l,Function.comp_def,St.arg,ev_un]) (by simp)
 | buildSlice t n ps =>
  unfold opT0 at h
  dsimp only at h
  split at h
  ·rename_i d'
   cases hz:hasN E.zs d' with
   | true =>
    rw[hz,cond_true] at h
    obtain⟨x,wr,c,h1,h2,h3⟩:=buildZ_ok h
    refine step_did (op':=some ⟨c,x.un,unHp wr⟩) hno ⟨x,wr,c,h1,rfl,h3⟩ ?_ (by simp)
    have hf:(inL Γ.fz (some d') && isBuild (.buildSlice t n ps)) = true:=by
     rw[hΓ.2.1]
     show (E.zs.contains d' && true) = true
     rw[Bool.and_true,List.contains_iff_mem]; exact (hasN_iff _ _).1 hz
    rw[opX_z hf]
    have hmv:inL Γ.mv (some d') = hasN E.ns d':=by
     show Γ.mv.contains d' = _
     rw[hΓ.2.2.1,Bool.eq_iff_iff,hasN_iff,List.contains_iff_mem]
    have e1:List.map (un2 fx cur).ev (Op.opds (.buildSlice t n ps)) = (ps.toList.map fun p=>evT fx cur constT p.2).map TSl.un:=by
     simp [Op.opds,Function.comp_def,ev_un]
    dsimp only
    rw[e1,hmv]
    exact h2
   | false =>
    rw[hz,cond_false] at h
    have hnz:(inL Γ.fz (some d') && isBuild (.buildSlice t n ps)) = false:=by
     rw[hΓ.2.1]
     show (E.zs.contains d' && true) = false
     rw[Bool.and_true,Bool.eq_false_iff]
     intro hc
     rw[List.contains_iff_mem] at hc
     rw[(hasN_iff _ _).2 hc] at hz; cases hz
    have hX:opX E.P Γ (un2 fx cur) ⟨some d',.buildSlice t n ps,type,pos,after,g⟩ = orE (opBuildSlice E.P t n (ps.toList.map (·.1)) (some d') (isFree (un2 fx cur).hp (some d')) ((ps.toList.map fun p=>evT fx cur constT p.2).map (argU fx cur))) (opBuildLit E.P t n (ps.toList.map (·.1)) (some d') (isFree (un2 fx cur).hp (some d')) ((ps.toList.map fun p=>evT fx cur constT p.2).map TSl.un)):=by
     rw[opX_nf hnz]
     unfold opE opY; simp [opV,Op.opds,Function.comp_def,St.arg,ev_un,argU]
    rcases buildSl_ok h with⟨h1,h2⟩ | h2
    ·rw[h1] at hX
     exact step_did hno h2 hX (by simp)
    ·exact step_l hno h2 hX (by simp)
  ·cases h
 | convert s t x =>
  unfold opT0 at h
  dsimp only at h
  split at h
  ·rename_i hz
   exact nomatch h
  ·rename_i hz
   exact step_did hno (conv_ok h) (by rw[opX_nf (by dsimp only; rw[hin,hz]; rfl)]; unfold opE opY; simp [opY0,opV,Op.opds,orE_r,orE_l,Function.comp_def,St.arg,ev_un,argU]) (by simp)
 | mapEntry t m x=>exact nomatch h
 | entryStore t m st v=>exact nomatch h
 | slice t x l hh m =>
  cases m with
  | none =>
   cases hz:atZs E dst with
   | true =>
    have h':tCutO E.P fx cur t l.isSome hh.isSome dst (evT fx cur constT x) ((l.toList ++ hh.toList).map (evT fx cur constT)) k = some r:=by
     unfold opT0 at h
     cases l <;> cases hh <;> (dsimp only at h; rw[hz] at h; exact h)
    exact step_did hno (cutO_ok h') (by rw[opX_t (by dsimp only; rw[hin,hz]; rfl)]; simp [opTk,Op.opds,Function.comp_def,arg_fun]) (by simp)
   | false =>
    have h':tSlice E.P fx cur t l.isSome hh.isSome (evT fx cur constT x) ((l.toList ++ hh.toList).map (evT fx cur constT)) k = some r:=by
     unfold opT0 at h
     cases l <;> cases hh <;> (dsimp only at h; rw[hz] at h; exact h)
    exact step_did hno (slice_ok h') (by rw[opX_nf (by dsimp only; rw[hin,hz]; rfl)]; unfold opE opY; simp [opY0,Op.opds,orE_r,orE_l,Function.comp_def,arg_fun]) (by simp)
  | some m =>
   cases l with
   | some l=>cases hh <;> cases h
   | none =>
    cases hh with
    | none=>cases h
    | some hh=>exact nomatch h
 | box t x=>exact step_did hno (box_ok h) (by unfold opX opE opY; simp [isFz,isBuild,isTake,opY0,opV,Op.opds,orE_r,orE_l,Function.comp_def,St.arg,ev_un]) (by simp)
 | makeMap t rs =>
  cases rs with
  | none =>
   unfold opT0 at h
   dsimp only at h
   split at h
   ·rename_i hz
    exact nomatch h
   ·rename_i hz
    exact nomatch h
  | some m=>cases h
 | lookup t m x ok =>
  have hL:(inL Γ.fz dst && isTake (.lookup t m x ok)) = false → tLook E.P fx cur E.H t ok (evT fx cur constT m) (evT fx cur constT x) k = some r → Stepped E.P Γ fx cur ⟨dst,.lookup t m x ok,type,pos,after,g⟩ k r:=fun hnt h=>by
   have hX:opX E.P Γ (un2 fx cur) ⟨dst,.lookup t m x ok,type,pos,after,g⟩ = orE (opLookup E.P t ok [argU fx cur (evT fx cur constT m),argU fx cur (evT fx cur constT x)]) (match ok with | false=>opLookD E.P t [(evT fx cur constT m).un,(evT fx cur constT x).un] | true=>none):=by
    rw[opX_nf (by
     dsimp only
     unfold isFz
     rw[show isBuild (.lookup t m x ok) = false from rfl,Bool.false_or]; exact hnt)]
    unfold opE opY; cases ok <;> simp [opV,Op.opds,St.arg,ev_un,argU]
   unfold tLook at h
   split at h
   ·rename_i heq
    exact step_l hno (look0_ok heq h) hX (by simp)
   ·rename_i kd e m' heq
    cases ok with
    | true=>cases h
    | false =>
     have h:tLookD E.P t (evT fx cur constT m) (evT fx cur constT x) k = some r:=h
     refine step_r hno (lookD_ok h) ?_ hX (by simp)
     rw[heq]
     rfl
   ·exact step_l hno (lookup_ok h) hX (by simp)
  unfold opT0 at h
  cases ok with
  | true=>exact hL (by simp [isTake]) h
  | false =>
   cases hz:atZs E dst with
   | true =>
    dsimp only at h
    rw[hz] at h
    exact nomatch h
   | false =>
    dsimp only at h
    rw[hz] at h
    exact hL (by rw[hin,hz]; rfl) h
 | mapUpdate t m x v =>
  have hX:opX E.P Γ (un2 fx cur) ⟨dst,.mapUpdate t m x v,type,pos,after,g⟩ = orE (opMapUpdate E.P t [argU fx cur (evT fx cur constT m),argU fx cur (evT fx cur constT x),argU fx cur (evT fx cur constT v)]) (opPutL E.P t [argU fx cur (evT fx cur constT m),argU fx cur (evT fx cur constT x),argU fx cur (evT fx cur constT v)]):=by
   unfold opX opE opY; simp [isFz,isBuild,isTake,opV,Op.opds,St.arg,ev_un,argU]
  have h:tPut E.P fx cur t (evT fx cur constT m) (evT fx cur constT x) (evT fx cur constT v) k = some r:=h
  unfold tPut at h
  split at h
  ·rename_i o heq
   split at h
   ·rename_i kd e te mm hh ho
    rw[heq] at hX
    refine step_r hno (putL_ok h) ?_ hX (by simp)
    show opMapUpdate E.P t [(.c (.v (.mp o)),[(un2 fx cur).hp o]),_,_] = none
    rw[hp_some ho]
    rfl
   ·exact step_l hno (mapUpdate_ok h) hX (by simp)
  ·exact step_l hno (mapUpdate_ok h) hX (by simp)
 | makeSlice t x y=>exact nomatch h
 | makeFunc fn first caps =>
  cases fn with
  | func f =>
   unfold opT0 at h
   dsimp only at h
   exact step_did hno (makeFunc_ok h) (by unfold opX opE opY; simp [isFz,isBuild,isTake,opY0,opV,Op.opds,orE_r,orE_l,Function.comp_def,St.arg,ev_un]) (by simp)
  | _=>cases h
 | call c =>
  obtain⟨callee,args,ts⟩:=c
  cases callee with
  | builtin b =>
   cases b with
   | len =>
    unfold opT0 at h
    dsimp only at h
    split at h
    ·rename_i x t h1 h2
     have h1:=arr1 h1
     have h2:=arr1 h2
     subst h1 h2
     exact step_did hno (len_ok h) (by unfold opX opE opY; simp [isFz,isBuild,isTake,opY0,opV,Op.opds,orE_r,orE_l,Function.comp_def,St.arg,ev_un,argU]) (fun c f hc=>by cases hc; simp)
    ·cases h
   | append =>
    unfold opT0 at h
    dsimp only at h
    split at h
    ·rename_i x y t t' h1 h2
     have h1:=arr1 h1
     have h2:=arr1 h2
     cases hb:Nat.beq t t' with
     | false =>
      rw[hb,cond_false] at h
      have hne:¬ t = t':=fun e=>by
       rw[beqN,decide_eq_false_iff_not] at hb
       exact hb e
      subst h1 h2
      cases hz:atZs E dst with
      | true=>rw[hz] at h; cases h
      | false =>
      rw[hz] at h
      exact step_did hno (appI_ok h) (by rw[opX_nf (by dsimp only; rw[hin,hz]; rfl)]; unfold opE opY; simp [opV,Op.opds,orE_l,St.arg,ev_un,argU,hne]) (fun c f hc=>by cases hc; simp)
     | true =>
     rw[hb,cond_true] at h
     have ht:=hb
     rw[beqN,decide_eq_true_eq] at ht
     subst h1 h2 ht
     cases hz:atZs E dst with
     | true =>
      rw[hz] at h
      exact step_did hno (appZ_ok h) (by rw[opX_t (by dsimp only; rw[hin,hz]; rfl)]; simp [opTk,Op.opds,St.arg,ev_un,argU]) (fun c f hc=>by cases hc; simp)
     | false =>
     rw[hz] at h
     have h7:tAppT E.P E.H fx cur t dst (evT fx cur constT x) (evT fx cur constT y) k = some r:=h
     have hX:opX E.P Γ (un2 fx cur) ⟨dst,.call ⟨.builtin .append,[x,y].toArray,[t,t].toArray⟩,type,pos,after,g⟩ = orE (opAppend E.P t dst (isFree (un2 fx cur).hp dst) [argU fx cur (evT fx cur constT x),argU fx cur (evT fx cur constT y)]) (opAppT E.P t dst (isFree (un2 fx cur).hp dst) [argU fx cur (evT fx cur constT x),argU fx cur (evT fx cur constT y)]):=by
      rw[opX_nf (by dsimp only; rw[hin,hz]; rfl)]; unfold opE opY; simp [opV,Op.opds,St.arg,ev_un,argU]
     rcases appT_cases h7 with⟨t',l,hx⟩ | h8
     ·rw[hx] at h7 hX
      exact step_r hno (appT_ok h7) (by rfl) hX (fun c f hc=>by cases hc; simp)
     ·exact step_l hno (append_ok h8) hX (fun c f hc=>by cases hc; simp)
    ·cases h
   | cap =>
    unfold opT0 at h
    dsimp only at h
    split at h
    ·rename_i x t h1 h2
     have h1:=arr1 h1
     have h2:=arr1 h2
     subst h1 h2
     exact step_did hno (cap_ok h) (by unfold opX opE opY; simp [isFz,isBuild,isTake,opV,Op.opds,orE_l,St.arg,ev_un]) (fun c f hc=>by cases hc; simp)
    ·cases h
   | copy =>
    unfold opT0 at h
    dsimp only at h
    split at h
    ·rename_i x y t u h1 h2
     have h1:=arr1 h1
     have h2:=arr1 h2
     subst h1 h2
     exact nomatch h
    ·cases h
   | clear =>
    unfold opT0 at h
    dsimp only at h
    split at h
    ·rename_i x t h1 h2
     have h1:=arr1 h1
     have h2:=arr1 h2
     subst h1 h2
     exact nomatch h
    ·cases h
   | min =>
    unfold opT0 at h
    dsimp only at h
    split at h
    ·rename_i x y h1
     have h1:=arr1 h1
     subst h1
     exact nomatch h
    ·cases h
   | max =>
    unfold opT0 at h
    dsimp only at h
    split at h
    ·rename_i x y h1
     have h1:=arr1 h1
     subst h1
     exact nomatch h
    ·cases h
   | _=>cases h
  | value f =>
   unfold opT0 at h
   dsimp only at h
   split at h
   ·rename_i fid caps d hev
    have key:∀ con,con ∈ E.Φ → con.f = fid / 2 → callC E fx cur ⟨.value f,args,ts⟩ caps fid d con k = some r → Stepped E.P Γ fx cur ⟨some d,.call ⟨.value f,args,ts⟩,type,pos,after,g⟩ k r:=by
     intro con hm hf h
     unfold callC at h
     obtain⟨hc,h⟩:=cond_some h
     have hfo:(un2 fx cur).ev f = .c (.v (.fn fid caps)):=by rw[ev_un,hev]; rfl
     have hargs:callArgs (un2 fx cur) ⟨.value f,args,ts⟩ fid caps = (cond (Nat.beq (fid % 2) 0) (args.toList.map (evT fx cur constT) ++ caps.map fun o=>tL (.loc o 0)) ((caps.map fun o=>tL (.loc o 0)) ++ args.toList.map (evT fx cur constT))).map TSl.un:=by
      have e1:args.toList.map (un2 fx cur).ev = (args.toList.map (evT fx cur constT)).map TSl.un:=by
       rw[List.map_map]
       exact List.map_congr_left fun x _=>ev_un fx cur x
      have e2:(caps.map fun o=>Slot.c (.v (.loc o 0))) = (caps.map fun o=>tL (.loc o 0)).map TSl.un:=by rw[List.map_map]; rfl
      unfold callArgs
      dsimp only
      by_cases h2:fid % 2 = 0
      ·rw[if_pos h2,show Nat.beq (fid % 2) 0 = true by rw[beqN]; simp [h2],cond_true,List.map_append,e1,e2]
      ·rw[if_neg h2,show Nat.beq (fid % 2) 0 = false by rw[beqN]; simp [h2],cond_false,List.map_append,e1,e2]
     obtain⟨y,wr,h1,e,h2,h3,h4⟩:=callT_ok (Γ:=Γ) (o:=⟨some d,.call ⟨.value f,args,ts⟩,type,pos,after,g⟩) (hΦ con hm) rfl rfl rfl hfo hf.symm hargs (fun hp=>by
      unfold pureAt at hp
      dsimp only at hp
      rw[hΓ.1] at hp
      rw[Bool.and_eq_true,Bool.and_eq_true] at hc
      have hc:=hc.1.2
      split at hc
      ·rename_i k1 k2
       rw[Bool.or_eq_true] at hc
       rcases hc with hc | hc
       ·exact⟨k1,k2,hc⟩
       ·rw[hasN_iff] at hc
        rw[Bool.not_eq_true',List.contains_eq_mem,decide_eq_false_iff_not] at hp
        exact absurd hc hp
      ·rw[hasN_iff] at hc
       rw[Bool.not_eq_true',List.contains_eq_mem,decide_eq_false_iff_not] at hp
       exact absurd hc hp) (fun hp x hx i hi=>by
      unfold pureAt at hp
      dsimp only at hp
      rw[hΓ.1] at hp
      rw[Bool.and_eq_true,Bool.and_eq_true,Bool.or_eq_true] at hc
      rcases hc.1.1 with hl | hl
      ·rw[hasN_iff] at hl
       rw[Bool.not_eq_true',List.contains_eq_mem,decide_eq_false_iff_not] at hp
       exact absurd hl hp
      ·unfold noLits at hl
       rw[ids_un] at hi
       have h1:=List.all_eq_true.1 (List.all_eq_true.1 hl x hx) i hi
       rw[un2_hp]
       cases ho:obT fx cur i with
       | none=>rw[ho] at h1; cases h1
       | some v =>
        rw[ho] at h1
        refine⟨by simp,fun e cs he=>?_⟩
        cases v with
        | lit e cs=>cases h1
        | _=>simp [TObj.un] at he) (fun hp=>by
      unfold keptAt at hp
      dsimp only at hp
      rw[hΓ.1,List.contains_iff_mem] at hp
      rw[Bool.and_eq_true] at hc
      have hc:=hc.2
      split at hc
      ·rename_i k1; exact k1
      ·rw[(hasN_iff _ _).2 hp] at hc; cases hc) (fun y wr hk x hx=>by
      obtain⟨hs,_⟩:=cond_some hk
      cases hq:spareAt Γ ⟨some d,.call ⟨.value f,args,ts⟩,type,pos,after,g⟩ x.1 with
      | false=>rfl
      | true =>
       unfold spareAt at hq
       dsimp only at hq
       rw[hΓ.1,List.contains_iff_mem] at hq
       have h1:=List.all_eq_true.1 hs _ hq
       rw[Bool.or_eq_true] at h1
       rcases h1 with h1 | h1
       ·rw[Nat.ble_eq] at h1; omega
       ·have:=List.all_eq_true.1 h1 x hx
        rw[Nat.beq_refl] at this; cases this) h
     exact⟨y,wr,(cond_some h1).2,e,h2,h3,h4⟩
    split at h
    ·rename_i con hcon
     obtain⟨hm,hf⟩:=conOf_ok hcon
     split at h
     ·exact key con hm hf h
     ·split at h
      ·rename_i con2 hcon2
       obtain⟨hm2,hf2⟩:=conOf_ok hcon2
       unfold orT at h
       split at h
       ·rename_i r' hr
        injection h with h
        subst h
        exact key con hm hf hr
       ·exact key con2 hm2 hf2 h
      ·cases h
    ·cases h
   ·cases h
  | invoke _ _=>cases h
 | _=>cases h
theorem inL_has {l:List Nat} {d:Nat}:inL l (some d) = hasN l d:=by
 rw[Bool.eq_iff_iff,hasN_iff]
 show l.contains d = true ↔ _
 rw[List.contains_iff_mem]
theorem opT_ok {o:Oper} {k:KE ρ} (hΦ:∀ con ∈ E.Φ,ConOK E.P con) (hΓ:Γ.hs = E.hs ∧ Γ.fz = E.zs ∧ Γ.mv = E.ns ∧ Γ.bx = E.bs) (h:opT E fx o.op o.dst cur k = some r):Stepped E.P Γ fx cur o k r:=by
 unfold opT at h
 obtain⟨hbt,h⟩:=cond_some h
 have hbt:btOK Γ (un2 fx cur) o:=fun k hk t ht i hi=>by
  unfold btIds at hbt
  rw[hk] at hbt
  rw[hΓ.2.2.2] at ht
  obtain⟨e,he,h1⟩:=List.any_eq_true.1 ht
  rw[Bool.and_eq_true] at h1
  have h2:=List.all_eq_true.1 hbt e he
  rw[h1.1,cond_true] at h2
  rw[ev_un,ids_un] at hi
  have h3:=List.all_eq_true.1 h2 i hi
  have e2:=Nat.eq_of_beq_eq_true h1.2
  cases hb:Nat.ble 500000 (e % 1000000) with
  | true =>
   rw[hb,cond_true] at h3
   have e1:=Nat.eq_of_beq_eq_true h3
   exact .inr (e1.trans e2)
  | false =>
   rw[hb,cond_false] at h3
   have hlt:e % 1000000 < 500000:=by
    rw[← Bool.not_eq_true,Nat.ble_eq] at hb; omega
   split at h3
   ·rename_i t' cs ho
    have e1:=Nat.eq_of_beq_eq_true h3
    refine .inl ⟨by omega,?_⟩
    rw[← e2,← e1]
    exact⟨_,hp_some ho⟩
   ·cases h3
 unfold opT1 at h
 cases hd:o.dst with
 | none =>
  rw[hd] at h
  exact opT0_ok hΦ hΓ ⟨fun hc=>(by rw[hd] at hc; cases hc),fun _ hc=>(by rw[hd] at hc; cases hc),hbt⟩ (by rw[hd]; exact h)
 | some d =>
  rw[hd] at h
  dsimp only at h
  cases hn:hasN E.ns d with
  | true =>
   rw[hn,cond_true] at h
   obtain⟨hi,h⟩:=cond_some h
   refine opT0_ok hΦ hΓ ⟨fun _ x hx=>?_,fun hc=>?_,hbt⟩ (by rw[hd]; exact h)
   ·have:=List.all_eq_true.1 hi x hx
    rw[ev_un,ids_un]
    split at this
    ·assumption
    ·cases this
   ·rw[hd,hΓ.2.2.1,inL_has,hn] at hc; cases hc
  | false =>
   rw[hn,cond_false] at h
   have h1:inL Γ.mv o.dst = true → False:=fun hc=>by rw[hd,hΓ.2.2.1,inL_has,hn] at hc; cases hc
   cases hb:hasN E.bs d with
   | true =>
    rw[hb,cond_true] at h
    obtain⟨hi,h⟩:=cond_some h
    refine opT0_ok hΦ hΓ ⟨fun hc=>(h1 hc).elim,fun _ _ x hx i hxi=>?_,hbt⟩ (by rw[hd]; exact h)
    rw[ev_un,ids_un] at hxi
    cases hsl:isSl o.op with
    | true =>
     rw[if_pos rfl]
     rw[hsl,cond_true] at hi
     have:=List.all_eq_true.1 (List.all_eq_true.1 hi x hx) i hxi
     split at this
     ·rename_i t cs l ho; exact⟨_,_,_,hp_some ho⟩
     ·cases this
    | false =>
     rw[if_neg (by simp)]
     rw[hsl,cond_false] at hi
     have:=List.all_eq_true.1 (List.all_eq_true.1 hi x hx) i hxi
     split at this
     ·rename_i t cs ho; exact⟨_,_,hp_some ho⟩
     ·cases this
   | false =>
    rw[hb,cond_false] at h
    refine opT0_ok hΦ hΓ ⟨fun hc=>(h1 hc).elim,fun _ hc=>?_,hbt⟩ (by rw[hd]; exact h)
    rw[hd,hΓ.2.2.2,inL_has,hb] at hc; cases hc
theorem forceTm_eq {α:Type}:∀ (l:List (Nat × TSl)) (k:List (Nat × TSl) → α),forceTm l k = k l
 | [],k=>rfl
 | (i,.dead) :: l,k=>by unfold forceTm; exact forceTm_eq l _
 | (i,.c (.v (.v t y))) :: l,k=>by unfold forceTm; exact forceTm_eq l _
 | (i,.c (.v .dead)) :: l,k=>by unfold forceTm; exact forceTm_eq l _
 | (i,.c (.v .nil)) :: l,k=>by unfold forceTm; exact forceTm_eq l _
 | (i,.c (.v (.loc _ _))) :: l,k=>by unfold forceTm; exact forceTm_eq l _
 | (i,.c (.v (.own _))) :: l,k=>by unfold forceTm; exact forceTm_eq l _
 | (i,.c (.v (.el _ _ _ _))) :: l,k=>by unfold forceTm; exact forceTm_eq l _
 | (i,.c (.v (.ip _ _ _))) :: l,k=>by unfold forceTm; exact forceTm_eq l _
 | (i,.c (.v (.mp _))) :: l,k=>by unfold forceTm; exact forceTm_eq l _
 | (i,.c (.v (.fn _ _))) :: l,k=>by unfold forceTm; exact forceTm_eq l _
 | (i,.c (.v (.sv _ _ _ _))) :: l,k=>by unfold forceTm; exact forceTm_eq l _
 | (i,.c (.v (.oth _))) :: l,k=>by unfold forceTm; exact forceTm_eq l _
 | (i,.c (.v (.nb _ _ _))) :: l,k=>by unfold forceTm; exact forceTm_eq l _
 | (i,.c (.v (.tl _ _))) :: l,k=>by unfold forceTm; exact forceTm_eq l _
 | (i,.c (.g _)) :: l,k=>by unfold forceTm; exact forceTm_eq l _
 | (i,.t _) :: l,k=>by unfold forceTm; exact forceTm_eq l _
theorem guardT_ok {ops:List Oper} {g d:Nat} {x:TSl} (h:guardT fx ops cur g = some (d,x)):guardSlot ops (un2 fx cur) g = x.un ∧ tmAt fx cur d = x:=by
 unfold guardT at h
 unfold guardSlot
 split at h
 ·rename_i o ho
  split at h
  ·rename_i d' hd
   injection h with h
   injection h with h1 h2
   subst h1
   rw[look2_eq] at h2
   have hx:tmAt fx cur d' = x:=h2
   rw[ho]
   refine⟨?_,hx⟩
   show (match o.dst with | some d=>(un2 fx cur).tm d | none=>.dead) = _
   rw[hd]
   show (un2 fx cur).tm d' = _
   rw[un2_tm,hx]
  ·cases h
 ·cases h
theorem known_un {d:Nat} {c:Bool} (h:tmAt fx cur d = tV .bool c):un2 fx ⟨putA cur.tm d (tV .bool c),cur.hp⟩ = un2 fx cur:=by
 refine St.ext' (fun k=>?_) (fun o=>?_)
 ·rw[un2_tm,un2_tm]
  unfold tmAt at h ⊢
  dsimp only
  rw[lookL_app,lookL_putA]
  by_cases hk:k = d
  ·subst hk
   rw[if_pos rfl,h]; rfl
  ·rw[if_neg hk,lookL_app]
 ·rw[un2_hp,un2_hp]; rfl
theorem skip_un (d:Option Nat):(un2 fx cur).app d skipE = un2 fx (appT cur d (.t []) []):=app_un d (.t []) [] True
theorem leafF_ok {t:Ty} {l:TL} {k:t.den → List Nat → Option ρ} (hlf:isLeaf t = true) (h:leafF fx cur t l k = some r):∃ x os,k x os = some r ∧ ∀ σ hps,σ.v = none → (∀ o ∈ os,o ∉ σ.m.map (·.1)) → LSub σ (un2 fx cur) hps l.un (TL.v t x).un:=by
 unfold leafF at h
 split at h
 ·rename_i t' x
  obtain⟨y,h,he⟩:=asTyU_some h
  exact⟨_,_,h,fun σ hps _ _=>by rw[un_enc he]; exact LSub_refl_v _ _ _⟩
 ·obtain⟨y,h,he⟩:=nilT_some h
  refine⟨_,_,h,fun σ hps _ _=>?_⟩
  have hu:(TL.v t y).un = .p (.sl []):=by
   show (match enc t y with | [p]=>Leaf.p p | _=>.dead) = _
   rw[he]
  rw[hu]; rfl
 ·rename_i o
  split at h
  ·rename_i e t' l ho
   obtain⟨y,h,he⟩:=asTyU_some h
   refine⟨_,_,h,fun σ hps hv ho2=>?_⟩
   have hu:(TL.v t y).un = .p (.sl (l.map (enc t'))):=un_enc he
   rw[hu]
   refine⟨?_,ho2 o (by simp),?_⟩
   ·rw[hp_some ho]; rfl
   ·unfold Ren.may; rw[hv]; trivial
  ·cases h
 ·cases h
theorem packF_ok:∀ (t:Ty) (ls:List TL) (k:t.den → List Nat → List TL → Option ρ),packF fx cur t ls k = some r → ∃ x os rest,k x os rest = some r ∧ ∃ pre,ls = pre ++ rest ∧ ∀ σ hps,σ.v = none → (∀ o ∈ os,o ∉ σ.m.map (·.1)) → LSubs σ (un2 fx cur) hps (pre.map TL.un) ((leavesT t x).map TL.un)
 | .pair a b,ls,k,h=>by
  unfold packF at h
  obtain⟨x,os,r1,h1,p1,rfl,e1⟩:=packF_ok a ls _ h
  obtain⟨y,ps,r2,h2,p2,rfl,e2⟩:=packF_ok b r1 _ h1
  refine⟨(x,y),os ++ ps,r2,h2,p1 ++ p2,by rw[List.append_assoc],fun σ hps hv ho=>?_⟩
  show LSubs σ _ hps ((p1 ++ p2).map TL.un) ((leavesT a x ++ leavesT b y).map TL.un)
  rw[List.map_append,List.map_append]
  exact LSubs_app (e1 σ hps hv fun o h=>ho o (List.mem_append_left _ h)) (e2 σ hps hv fun o h=>ho o (List.mem_append_right _ h))
 | .any,[],k,h=>by cases h
 | .int kd,[],k,h=>by cases h
 | .bool,[],k,h=>by cases h
 | .str,[],k,h=>by cases h
 | .sl e,[],k,h=>by cases h
 | .map kd e,[],k,h=>by cases h
 | .map kd e,l :: ls,k,h=>by obtain⟨x,os,h2,e⟩:=leafF_ok (t := .map kd e) rfl h; exact⟨x,os,ls,h2,[l],rfl,fun σ hps hv ho=>⟨e σ hps hv ho,trivial⟩⟩
 | .slu i,[],k,h=>by cases h
 | .slu i,l :: ls,k,h=>by
  obtain⟨x,os,h2,e⟩:=leafF_ok (t := .slu i) rfl h
  refine⟨x,os,ls,h2,[l],rfl,fun σ hps hv ho=>⟨?_,trivial⟩⟩
  have e1:=e σ hps hv ho
  rw[← un_enc (a := .slu i) (x:=x) (enc_slu i x)] at e1
  exact e1
 | .any,l :: ls,k,h=>by obtain⟨x,os,h2,e⟩:=leafF_ok (t := .any) rfl h; exact⟨x,os,ls,h2,[l],rfl,fun σ hps hv ho=>⟨e σ hps hv ho,trivial⟩⟩
 | .int kd,l :: ls,k,h=>by obtain⟨x,os,h2,e⟩:=leafF_ok (t := .int kd) rfl h; exact⟨x,os,ls,h2,[l],rfl,fun σ hps hv ho=>⟨e σ hps hv ho,trivial⟩⟩
 | .bool,l :: ls,k,h=>by obtain⟨x,os,h2,e⟩:=leafF_ok (t := .bool) rfl h; exact⟨x,os,ls,h2,[l],rfl,fun σ hps hv ho=>⟨e σ hps hv ho,trivial⟩⟩
 | .str,l :: ls,k,h=>by obtain⟨x,os,h2,e⟩:=leafF_ok (t := .str) rfl h; exact⟨x,os,ls,h2,[l],rfl,fun σ hps hv ho=>⟨e σ hps hv ho,trivial⟩⟩
 | .sl e,l :: ls,k,h=>by obtain⟨x,os,h2,e⟩:=leafF_ok (t := .sl e) rfl h; exact⟨x,os,ls,h2,[l],rfl,fun σ hps hv ho=>⟨e σ hps hv ho,trivial⟩⟩
theorem frzAll_ok {te:Ty}:∀ (l:List Operand) (k:List (Nat × TSl) → List Nat → Option ρ),frzAll fx cur te l k = some r → ∃ ns os,k ns os = some r ∧ ∀ σ hps,σ.v = none → (∀ o ∈ os,o ∉ σ.m.map (·.1)) → ∀ x ∈ ns,SSub σ (un2 fx cur) hps (tmAt fx cur x.1).un x.2.un
 | [],k,h=>⟨[],[],h,fun _ _ _ _ x hx=>nomatch hx⟩
 | .tmp t :: l,k,h=>by
  unfold frzAll at h
  split at h
  ·rename_i c hc
   obtain⟨x,os,rest,h1,pre,hp,e1⟩:=packF_ok te _ _ h
   split at h1
   ·rw[List.append_nil] at hp
    obtain⟨ns,ps,h2,e2⟩:=frzAll_ok l _ h1
    refine⟨_,_,h2,fun σ hps hv ho y hy=>?_⟩
    rcases List.mem_cons.1 hy with rfl | hy
    ·have ht:tmAt fx cur t = .c c:=by
      unfold tmAt
      rw[look2_eq] at hc
      rw[hc]; rfl
     dsimp only
     rw[ht]
     have h3:=e1 σ hps hv fun o h=>ho o (List.mem_append_left _ h)
     rw[← hp] at h3
     cases c with
     | g xs=>exact h3
     | v y =>
      simp only[TC.leaves,List.map_cons,List.map_nil] at h3
      show LSub σ _ hps y.un (TL.un (match leavesT te x with | y :: _=>y | []=>.dead))
      cases hl:leavesT te x with
      | nil=>rw[hl] at h3; exact h3.elim
      | cons z zs=>rw[hl] at h3; exact h3.1
    ·exact e2 σ hps hv (fun o h=>ho o (List.mem_append_right _ h)) y hy
   ·cases h1
  ·cases h
 | .const _ :: l,k,h=>frzAll_ok l k h
 | .global _ :: l,k,h=>frzAll_ok l k h
 | .func _ :: l,k,h=>frzAll_ok l k h
theorem dedup_nodup {α:Type}:∀ (l:List (Nat × α)) (seen:List Nat),(keysN (dedupA seen l)).Nodup
 | [],_=>List.nodup_nil
 | x :: l,seen=>by
  unfold dedupA
  cases hs:hasN seen x.1 with
  | true=>rw[cond_true]; exact dedup_nodup l seen
  | false =>
   rw[cond_false]
   show (x.1 :: keysN (dedupA (x.1 :: seen) l)).Nodup
   refine List.nodup_cons.2 ⟨fun hm=>?_,dedup_nodup l _⟩
   obtain⟨y,hy,he⟩:=List.mem_map.1 hm
   have:=(dedup_mem l (x.1 :: seen) y hy).1
   rw[he,(hasN_iff _ _).2 List.mem_cons_self] at this
   cases this
theorem leafZq_sub {os:List Nat} {σ:Ren} {hps:List (Nat × HObj)} (hv:σ.v = none) (ho:∀ o ∈ os,o ∉ σ.m.map (·.1)) (x:TL) (h:∀ i ∈ (leafZq fx cur os x).idsT,Same σ hps i):LSub σ (un2 fx cur) hps x.un (leafZq fx cur os x).un:=by
 cases x with
 | own o =>
  have e:leafZq fx cur os (.own o) = cond (hasN os o) (match obT fx cur o with | some (.arr _ t l)=>TL.v (.sl t) l | _=>.own o) (.own o):=rfl
  rw[e] at h ⊢
  cases hb:hasN os o with
  | true =>
   rw[hb,cond_true] at h
   rw[cond_true]
   split
   ·rename_i ee t l hob
    refine⟨?_,ho o ((hasN_iff _ _).1 hb),?_⟩
    ·rw[hp_some hob]; rfl
    ·unfold Ren.may; rw[hv]; trivial
   ·split at h
    ·rename_i hno _ ee t l hob
     exact absurd hob (hno _ _ _)
    ·exact LSub_self _ h
  | false=>rw[hb,cond_false] at h; rw[cond_false]; exact LSub_self _ h
 | dead=>exact LSub_self _ h
 | v t x=>exact LSub_self _ h
 | nil=>exact LSub_self _ h
 | loc o off=>exact LSub_self _ h
 | el o n off z=>exact LSub_self _ h
 | ip t x off=>exact LSub_self _ h
 | mp o=>exact LSub_self _ h
 | fn f caps=>exact LSub_self _ h
 | sv o a b z=>exact LSub_self _ h
 | oth v=>exact LSub_self _ h
 | nb pos t l=>exact LSub_self _ h
 | tl t l=>exact LSub_self _ h
theorem leavesZq_sub {os:List Nat} {σ:Ren} {hps:List (Nat × HObj)} (hv:σ.v = none) (ho:∀ o ∈ os,o ∉ σ.m.map (·.1)):∀ (xs:List TL),(∀ i ∈ (xs.map (leafZq fx cur os)).flatMap TL.idsT,Same σ hps i) → LSubs σ (un2 fx cur) hps (xs.map TL.un) ((xs.map (leafZq fx cur os)).map TL.un)
 | [],_=>trivial
 | x :: xs,h=>⟨leafZq_sub hv ho x fun i hi=>h i (by simp [hi]),leavesZq_sub hv ho xs fun i hi=>h i (by rw[List.map_cons,List.flatMap_cons]; exact List.mem_append_right _ hi)⟩
theorem cmpZq_sub {os:List Nat} {σ:Ren} {hps:List (Nat × HObj)} (hv:σ.v = none) (ho:∀ o ∈ os,o ∉ σ.m.map (·.1)) (c:TC) (h:∀ i ∈ (cmpZq fx cur os c).leaves.flatMap TL.idsT,Same σ hps i):CSub σ (un2 fx cur) hps c.un (cmpZq fx cur os c).un:=by
 cases c with
 | v x=>exact leafZq_sub hv ho x fun i hi=>h i (by simpa [cmpZq,TC.leaves] using hi)
 | g xs=>exact leavesZq_sub hv ho xs h
theorem cmpsZq_sub {os:List Nat} {σ:Ren} {hps:List (Nat × HObj)} (hv:σ.v = none) (ho:∀ o ∈ os,o ∉ σ.m.map (·.1)):∀ (l:List TC),(∀ i ∈ (l.map (cmpZq fx cur os)).flatMap (fun c=>c.leaves.flatMap TL.idsT),Same σ hps i) → CSubs σ (un2 fx cur) hps (l.map TC.un) ((l.map (cmpZq fx cur os)).map TC.un)
 | [],_=>trivial
 | c :: l,h=>⟨cmpZq_sub hv ho c fun i hi=>h i (by rw[List.map_cons,List.flatMap_cons]; exact List.mem_append_left _ hi),cmpsZq_sub hv ho l fun i hi=>h i (by rw[List.map_cons,List.flatMap_cons]; exact List.mem_append_right _ hi)⟩
theorem slZq_sub {os:List Nat} {σ:Ren} {hps:List (Nat × HObj)} (hv:σ.v = none) (ho:∀ o ∈ os,o ∉ σ.m.map (·.1)) (x:TSl) (h:∀ i ∈ (offT os (slZq fx cur os x)).idsT,Same σ hps i):SSub σ (un2 fx cur) hps x.un (offT os (slZq fx cur os x)).un:=by
 unfold offT at h ⊢
 cases hb:(slZq fx cur os x).idsT.any (hasN os) with
 | true=>rw[cond_true]; exact SSub_dead _
 | false =>
  rw[hb,cond_false] at h
  rw[cond_false]
  cases x with
  | dead=>trivial
  | c c=>exact cmpZq_sub hv ho c h
  | t l=>exact cmpsZq_sub hv ho l h
theorem objZq_sub {os:List Nat} {σ:Ren} {hps:List (Nat × HObj)} (hv:σ.v = none) (ho:∀ o ∈ os,o ∉ σ.m.map (·.1)) (x:TObj) (h:∀ i ∈ (objZq fx cur os x).idsT,Same σ hps i):OSub σ (un2 fx cur) hps (some x.un) (objZq fx cur os x).un:=by
 cases x with
 | gone=>trivial
 | box t cs=>exact⟨rfl,leavesZq_sub hv ho cs h⟩
 | arr e t l=>exact⟨rfl,rfl,rfl⟩
 | mapI k agg t m=>exact⟨rfl,rfl,rfl⟩
 | mapS agg t m=>exact⟨rfl,rfl⟩
 | mapQ k agg t m=>exact⟨rfl,rfl,rfl⟩
 | mapE k agg t m key d=>exact⟨rfl,rfl,rfl,rfl,h d (by simp [objZq,TObj.idsT])⟩
 | mapL k e t m h=>exact⟨rfl,rfl,rfl,rfl,rfl⟩
 | lit t cs=>exact⟨rfl,leavesZq_sub hv ho cs h⟩
theorem zcall_ok {os:List Nat} (hfx:∀ o ∈ os,(match look fx.hp o with | some _=>false | none=>true) = true) (hcl:closedT ⟨dedupA [] (zTm fx cur os ++ fx.tm),dedupA [] (zHp fx cur os ++ fx.hp)⟩ = true) :
  ∃ tms hps σ,Sub σ (un2 fx cur) tms hps ∧ mkSt tms hps = un2 fx ⟨zTm fx cur os,zHp fx cur os⟩:=by
 let T:=dedupA [] (zTm fx cur os ++ fx.tm)
 let O:=dedupA [] (zHp fx cur os ++ fx.hp)
 let σ:Ren:=⟨O.map fun x=>(x.1,x.1),none,true⟩
 have hT:∀ k,lookL T k = lookL (zTm fx cur os ++ fx.tm) k:=fun k=>by
  show lookL (dedupA [] _) k = _
  rw[lookL_dedup,if_neg (by simp [hasN])]
 have hO:∀ k,lookL O k = lookL (zHp fx cur os ++ fx.hp) k:=fun k=>by
  show lookL (dedupA [] _) k = _
  rw[lookL_dedup,if_neg (by simp [hasN])]
 have hz:∀ o,lookL (zHp fx cur os) o = (if !hasN os o then lookL cur.hp o else none).map (objZq fx cur os):=fun o=>by
  unfold zHp
  rw[lookL_map (objZq fx cur os),lookL_filter (fun k=>!hasN os k)]
 have hnd:(keysN O).Nodup:=dedup_nodup _ _
 have hos:∀ o ∈ os,o ∉ keysN O:=fun o ho hk=>by
  have h1:lookL O o = none:=by
   rw[hO,lookL_app,hz,(hasN_iff os o).2 ho]
   have:=hfx o ho
   rw[look_eq] at this
   show lookL fx.hp o = none
   cases hl:lookL fx.hp o with
   | none=>rfl
   | some v=>rw[hl] at this; cases this
  exact (lookL_none_iff _ _).1 h1 hk
 have hm1:σ.m.map (·.1) = keysN O:=by show (O.map fun x=>(x.1,x.1)).map (·.1) = _; rw[List.map_map]; rfl
 have hm2:σ.m.map (·.2) = keysN O:=by show (O.map fun x=>(x.1,x.1)).map (·.2) = _; rw[List.map_map]; rfl
 have hσ:σ.nodup:=⟨by rw[hm1]; exact hnd,by rw[hm2]; exact hnd⟩
 have hod:∀ o ∈ os,o ∉ σ.m.map (·.1):=fun o ho=>by rw[hm1]; exact hos o ho
 have hsame:∀ i ∈ keysN O,Same σ (unHp O) i:=fun i hi=>by
  obtain⟨y,hy,rfl⟩:=List.mem_map.1 hi
  exact⟨List.mem_map.2 ⟨y,hy,rfl⟩,lookL_unHp hi⟩
 unfold closedT at hcl
 simp only[Bool.and_eq_true,List.all_eq_true] at hcl
 refine⟨unTm T,unHp O,σ,⟨⟨hσ,rfl,rfl,allP_of fun x hx _=>?_⟩,allP_of fun q hq=>?_,allP_of fun q hq=>?_⟩,?_⟩
 ·obtain⟨y,_,rfl⟩:=List.mem_map.1 hx; rfl
 ·obtain⟨y,hy,rfl⟩:=List.mem_map.1 hq
  dsimp only
  rw[un2_tm]
  have hl:=(dedup_mem _ _ _ hy).2
  have hids:∀ i ∈ y.2.idsT,Same σ (unHp O) i:=fun i hi=>hsame i ((hasN_iff _ _).1 (hcl.1 y hy i hi))
  rw[lookL_app] at hl
  have e1:lookL (zTm fx cur os) y.1 = (lookL cur.tm y.1).map (fun v=>offT os (slZq fx cur os v)):=lookL_map (fun v=>offT os (slZq fx cur os v)) cur.tm y.1
  rw[e1] at hl
  cases h2:lookL cur.tm y.1 with
  | some v =>
   rw[h2] at hl
   have hv:offT os (slZq fx cur os v) = y.2:=by simpa using hl
   have ht:tmAt fx cur y.1 = v:=by unfold tmAt; rw[lookL_app,h2]; rfl
   rw[ht,← hv]
   rw[← hv] at hids
   exact slZq_sub rfl hod v hids
  | none =>
   rw[h2] at hl
   have hl:lookL fx.tm y.1 = some y.2:=by simpa using hl
   have ht:tmAt fx cur y.1 = y.2:=by unfold tmAt; rw[lookL_app,h2]; dsimp only; rw[hl]; rfl
   rw[ht]
   exact SSub_self _ hids
 ·obtain⟨y,hy,rfl⟩:=List.mem_map.1 hq
  show HSub σ (un2 fx cur) (unHp O) (y.1,y.2.un)
  unfold HSub
  have hk:y.1 ∈ keysN O:=mem_keys hy
  rw[lookL_swap hσ (hsame _ hk).1]
  dsimp only
  have hl:=(dedup_mem _ _ _ hy).2
  have hids:∀ i ∈ y.2.idsT,Same σ (unHp O) i:=fun i hi=>hsame i ((hasN_iff _ _).1 (hcl.2 y hy i hi))
  rw[lookL_app,hz] at hl
  cases hb:hasN os y.1 with
  | true=>exact absurd hk (hos _ ((hasN_iff _ _).1 hb))
  | false =>
   rw[hb] at hl
   simp only[Bool.not_false,if_true] at hl
   rw[un2_hp,obT_eq,lookL_app]
   cases h2:lookL cur.hp y.1 with
   | some v =>
    rw[h2] at hl
    have hv:objZq fx cur os v = y.2:=by simpa using hl
    rw[← hv] at hids ⊢
    exact objZq_sub rfl hod v hids
   | none =>
    rw[h2] at hl
    have hl:lookL fx.hp y.1 = some y.2:=by simpa using hl
    dsimp only
    rw[hl]
    exact OSub_self _ hids
 ·refine St.ext' (fun k=>?_) (fun o=>?_)
  ·rw[un2_tm]
   show (lookL (unTm T) k).getD .dead = _
   unfold unTm
   rw[lookL_map TSl.un,hT]
   unfold tmAt
   dsimp only
   cases lookL (zTm fx cur os ++ fx.tm) k <;> rfl
  ·rw[un2_hp,obT_eq]
   show lookL (unHp O) o = _
   unfold unHp
   rw[lookL_map TObj.un,hO]
theorem frzT_ok {op:Op} {k:TSt → Option ρ} (h:frzT E fx op cur k = some r):∃ cur',k cur' = some r ∧ ∃ tms hps σ,Sub σ (un2 fx cur) tms hps ∧ mkSt tms hps = un2 fx cur':=by
 unfold frzT at h
 split at h
 ·rename_i ps
  cases hnf:nilFree fx cur (ps.toList.map (·.2)) with
  | true =>
   rw[hnf,cond_true] at h
   obtain⟨hc,h⟩:=cond_some h
   rw[Bool.and_eq_true,List.all_eq_true] at hc
   exact⟨_,h,zcall_ok hc.1 hc.2⟩
  | false =>
  rw[hnf,cond_false] at h
  split at h
  ·rename_i te _
   obtain⟨ns,os,h,hns⟩:=frzAll_ok _ _ h
   obtain⟨hc,h⟩:=cond_some h
   rw[Bool.and_eq_true,List.all_eq_true] at hc
   obtain⟨hfx,hcl⟩:=hc
   let T:=dedupA [] (frzTm cur ns os ++ fx.tm)
   let O:=dedupA [] (frzHp cur os ++ fx.hp)
   let σ:Ren:=⟨O.map fun x=>(x.1,x.1),none,true⟩
   have hT:∀ k,lookL T k = lookL (frzTm cur ns os ++ fx.tm) k:=fun k=>by
    show lookL (dedupA [] _) k = _
    rw[lookL_dedup,if_neg (by simp [hasN])]
   have hO:∀ k,lookL O k = lookL (frzHp cur os ++ fx.hp) k:=fun k=>by
    show lookL (dedupA [] _) k = _
    rw[lookL_dedup,if_neg (by simp [hasN])]
   have hnd:(keysN O).Nodup:=dedup_nodup _ _
   have hos:∀ o ∈ os,o ∉ keysN O:=fun o ho hk=>by
    have h1:lookL O o = none:=by
     rw[hO,lookL_app]
     have:lookL (frzHp cur os) o = none:=by
      unfold frzHp
      rw[lookL_filter (fun k=>!hasN os k),(hasN_iff os o).2 ho]; rfl
     rw[this]
     have:=hfx o ho
     rw[look_eq] at this
     cases hl:lookL fx.hp o with
     | none=>rfl
     | some v=>rw[hl] at this; cases this
    exact (lookL_none_iff _ _).1 h1 hk
   have hm1:σ.m.map (·.1) = keysN O:=by show (O.map fun x=>(x.1,x.1)).map (·.1) = _; rw[List.map_map]; rfl
   have hm2:σ.m.map (·.2) = keysN O:=by show (O.map fun x=>(x.1,x.1)).map (·.2) = _; rw[List.map_map]; rfl
   have hσ:σ.nodup:=⟨by rw[hm1]; exact hnd,by rw[hm2]; exact hnd⟩
   have hsame:∀ i ∈ keysN O,Same σ (unHp O) i:=fun i hi=>by
    obtain⟨y,hy,rfl⟩:=List.mem_map.1 hi
    exact⟨List.mem_map.2 ⟨y,hy,rfl⟩,lookL_unHp hi⟩
   unfold closedT at hcl
   simp only[Bool.and_eq_true,List.all_eq_true] at hcl
   refine⟨_,h,unTm T,unHp O,σ,⟨⟨hσ,rfl,rfl,allP_of fun x hx _=>?_⟩,allP_of fun q hq=>?_,allP_of fun q hq=>?_⟩,?_⟩
   ·obtain⟨y,_,rfl⟩:=List.mem_map.1 hx; rfl
   ·obtain⟨y,hy,rfl⟩:=List.mem_map.1 hq
    dsimp only
    rw[un2_tm]
    have hl:=(dedup_mem _ _ _ hy).2
    have hids:∀ i ∈ y.2.idsT,Same σ (unHp O) i:=fun i hi=>hsame i ((hasN_iff _ _).1 (hcl.1 y hy i hi))
    unfold frzTm at hl
    rw[lookL_app,lookL_app] at hl
    cases h1:lookL ns y.1 with
    | some v =>
     rw[h1] at hl
     have:v = y.2:=by simpa using hl
     subst this
     exact hns σ (unHp O) rfl (fun o ho=>by rw[hm1]; exact hos o ho) (y.1,y.2) (lookL_mem h1)
    | none =>
     rw[h1] at hl
     dsimp only at hl
     have e1:lookL (cur.tm.map fun x=>(x.1,offT os x.2)) y.1 = (lookL cur.tm y.1).map (offT os):=lookL_map (offT os) cur.tm y.1
     rw[e1] at hl
     cases h2:lookL cur.tm y.1 with
     | some v =>
      rw[h2] at hl
      have hv:offT os v = y.2:=by simpa using hl
      have ht:tmAt fx cur y.1 = v:=by unfold tmAt; rw[lookL_app,h2]; rfl
      rw[ht,← hv]
      unfold offT at hv ⊢
      cases hb:v.idsT.any (hasN os) with
      | true=>rw[cond_true]; exact SSub_dead _
      | false =>
       rw[hb,cond_false] at hv
       rw[cond_false]
       rw[← hv] at hids
       exact SSub_self v hids
     | none =>
      rw[h2] at hl
      have hl:lookL fx.tm y.1 = some y.2:=by simpa using hl
      have ht:tmAt fx cur y.1 = y.2:=by unfold tmAt; rw[lookL_app,h2]; dsimp only; rw[hl]; rfl
      rw[ht]
      exact SSub_self _ hids
   ·obtain⟨y,hy,rfl⟩:=List.mem_map.1 hq
    show HSub σ (un2 fx cur) (unHp O) (y.1,y.2.un)
    unfold HSub
    have hk:y.1 ∈ keysN O:=mem_keys hy
    rw[lookL_swap hσ (hsame _ hk).1]
    dsimp only
    have hl:=(dedup_mem _ _ _ hy).2
    have hob:obT fx cur y.1 = some y.2:=by
     rw[obT_eq,lookL_app]
     rw[lookL_app] at hl
     have e1:lookL (frzHp cur os) y.1 = if !hasN os y.1 then lookL cur.hp y.1 else none:=lookL_filter (fun k=>!hasN os k) cur.hp y.1
     rw[e1] at hl
     cases hb:hasN os y.1 with
     | true=>exact absurd hk (hos _ ((hasN_iff _ _).1 hb))
     | false =>
      rw[hb] at hl
      simp only[Bool.not_false,if_true] at hl
      exact hl
    rw[un2_hp,hob]
    exact OSub_self _ fun i hi=>hsame i ((hasN_iff _ _).1 (hcl.2 y hy i hi))
   ·refine St.ext' (fun k=>?_) (fun o=>?_)
    ·rw[un2_tm]
     show (lookL (unTm T) k).getD .dead = _
     unfold unTm
     rw[lookL_map TSl.un,hT]
     unfold tmAt
     dsimp only
     cases lookL (frzTm cur ns os ++ fx.tm) k <;> rfl
    ·rw[un2_hp,obT_eq]
     show lookL (unHp O) o = _
     unfold unHp
     rw[lookL_map TObj.un,hO]
  ·cases h
 ·obtain⟨hc,h⟩:=cond_some h
  rw[Bool.and_eq_true,List.all_eq_true] at hc
  exact⟨_,h,zcall_ok hc.1 hc.2⟩
 ·cases h
theorem seeT_ok {P:Program} {o:Oper} {k:TSt → Option ρ} (hvs:Γ.vs = E.fz) {Q:St → Prop} (hk:∀ c,k c = some r → Q (un2 fx c)) (h:seeT E fx o cur k = some r):viewA Γ o (un2 fx cur) Q:=by
 unfold viewA
 unfold seeT at h
 have hv:inL Γ.vs o.dst = match o.dst with | some d=>hasN E.fz d | none=>false:=by
  unfold inL
  rw[hvs]
  cases o.dst with
  | none=>rfl
  | some d =>
   dsimp only
   rw[Bool.eq_iff_iff,hasN_iff]
   simp
 rw[hv]
 split at h
 ·rename_i d hd
  cases hb:hasN E.fz d with
  | true =>
   rw[hb,cond_true] at h
   rw[if_pos (by rw[hd]; exact hb)]
   obtain⟨c',h1,tms,hps,σ,h2,h3⟩:=frzT_ok h
   exact .inr ⟨tms,hps,σ,h2,by rw[h3]; exact hk _ h1⟩
  | false =>
   rw[hb,cond_false] at h
   rw[if_neg (by rw[hd]; dsimp only; rw[hb]; simp)]
   exact hk _ h
 ·rename_i hd
  rw[if_neg (by rw[hd]; simp)]
  exact hk _ h
theorem view_id {o:Oper} {s:St} {Q:St → Prop} (h:Q s):viewA Γ o s Q:=by
 unfold viewA
 split
 ·exact .inl h
 ·exact h
theorem regT_ok {P:Program} (hP:P = E.P) (hvs:Γ.vs = E.fz) (hΦ:∀ con ∈ E.Φ,ConOK E.P con) (hΓ:Γ.hs = E.hs ∧ Γ.fz = E.zs ∧ Γ.mv = E.ns ∧ Γ.bx = E.bs) {ops:List Oper} {K:TSt → Option ρ} {Q:St → Prop} (hQ:∀ c,K c = some r → Q (un2 fx c)):∀ (l:List Oper) (cur:TSt),regT E fx ops l cur K = some r → regA P Γ ops l (un2 fx cur) Q
 | [],cur,h=>hQ cur h
 | o :: rest,cur,h=>by
  subst hP
  have ih:=regT_ok (ops:=ops) rfl hvs hΦ hΓ hQ rest
  have run:∀ cur:TSt,(opT E fx o.op o.dst cur fun x wr=>forceTm (appT cur o.dst x wr).tm fun tm=>regT E fx ops rest ⟨tm,(appT cur o.dst x wr).hp⟩ K) = some r → stepA E.P Γ (un2 fx cur) o fun e=>regA E.P Γ ops rest ((un2 fx cur).app o.dst e) Q:=by
   intro cur h
   obtain⟨x,wr,h1,h2⟩:=opT_ok hΦ hΓ h
   dsimp only at h1
   rw[forceTm_eq] at h1
   have h3:=ih _ h1
   exact stepA_mono (fun e he=>by rw[he]; exact h3) h2
  unfold regA
  unfold regT at h
  split at h
  ·rename_i hg
   refine seeT_ok (P:=E.P) hvs (fun c hc=>?_) h
   rw[hg]
   exact run c hc
  ·rename_i g b hg
   refine view_id ?_
   rw[hg]
   dsimp only
   split at h
   ·rename_i d c hgt
    obtain⟨c,rfl⟩:∃ q:Bool,q = c:=⟨c,rfl⟩
    obtain⟨g1,g2⟩:=guardT_ok hgt
    rw[g1]
    show (c = b → _) ∧ (c = !b → _)
    have hk:=known_un g2
    cases c with
    | true =>
     rw[cond_true] at h
     cases b with
     | true =>
      rw[cond_true] at h
      refine⟨fun _=>?_,(fun h=>nomatch h)⟩
      have:=run ⟨putA cur.tm d (tV .bool true),cur.hp⟩ h
      rw[hk] at this
      exact this
     | false =>
      rw[cond_false] at h
      refine⟨(fun h=>nomatch h),fun _=>?_⟩
      have:=ih _ h
      rw[← skip_un,hk] at this
      exact this
    | false =>
     rw[cond_false] at h
     cases b with
     | true =>
      rw[cond_true] at h
      refine⟨(fun h=>nomatch h),fun _=>?_⟩
      have:=ih _ h
      rw[← skip_un,hk] at this
      exact this
     | false =>
      rw[cond_false] at h
      refine⟨fun _=>?_,(fun h=>nomatch h)⟩
      have:=run ⟨putA cur.tm d (tV .bool false),cur.hp⟩ h
      rw[hk] at this
      exact this
   ·rename_i d l hgt
    obtain⟨g1,g2⟩:=guardT_ok hgt
    rw[g1]
    show regA E.P Γ ops rest ((un2 fx cur).app o.dst skipE) Q
    rw[skip_un]
    exact ih _ h
   ·cases h
end
end Go.Lad
