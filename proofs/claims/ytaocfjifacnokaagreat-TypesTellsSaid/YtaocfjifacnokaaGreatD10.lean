import Derived.Test.YtaocfjifacnokaaGreatD9
namespace Go.Lad
set_option linter.unusedVariables false
set_option linter.unusedSimpArgs false
open Go.RowKit
section
variable {ρ:Type} {E:Env} {Γ:Opt} {fx cur:TSt} {r:ρ}
def Stepped (P:Program) (Γ:Opt) (fx cur:TSt) (o:Oper) (k:KE ρ) (r:ρ):Prop :=
 ∃ x wr,k x wr = some r ∧ nR P Γ (un2 fx cur) o fun e=>(un2 fx cur).app o.dst e = un2 fx (pB cur o.dst x wr)
theorem dC {P:Program} {o:Oper} {op':Option Eff} {k:KE ρ} (hno:ov Γ (un2 fx cur) o) (hd:Did op' k r) (hx:opX P Γ (un2 fx cur) o = op') (hnc:∀ c f,o.op = .call c → c.callee ≠ .value f):Stepped P Γ fx cur o k r:=by
 obtain⟨x,wr,c,h1,h2,h3⟩:=hd
 refine⟨x,wr,h1,?_⟩
 unfold nR
 split
 ·rename_i f a t heq
  exact absurd rfl (hnc _ f heq)
 ·rw[hx,h2]
  exact⟨h3,hno,CG o.dst x wr c⟩
theorem pY {P:Program} {o:Oper} {a b:Option Eff} {k:KE ρ} (hno:ov Γ (un2 fx cur) o) (hd:Did a k r) (hx:opX P Γ (un2 fx cur) o = orE a b) (hnc:∀ c f,o.op = .call c → c.callee ≠ .value f):Stepped P Γ fx cur o k r:=by
 refine dC hno hd ?_ hnc
 obtain⟨x,wr,c,h1,h2,h3⟩:=hd
 rw[hx,h2]; rfl
theorem yT {P:Program} {o:Oper} {a b:Option Eff} {k:KE ρ} (hno:ov Γ (un2 fx cur) o) (hd:Did b k r) (ha:a = none) (hx:opX P Γ (un2 fx cur) o = orE a b) (hnc:∀ c f,o.op = .call c → c.callee ≠ .value f):Stepped P Γ fx cur o k r:=by
 refine dC hno hd ?_ hnc
 rw[hx,ha]; rfl
theorem Jm:(un2 fx cur).arg = fun x=>dO fx cur (evT fx cur da x):=by
 funext x
 unfold St.arg dO
 rw[fS]
theorem tk {α:Type} {a:Array α} {l:List α} (h:a.toList = l):a = l.toArray:=by cases a; simp_all
theorem AV {Φ:List Con} {sel:List (Nat × Nat)} {f:FuncId} {d:Nat} {con:Con} (h:DA Φ sel f d = some con):con ∈ Φ ∧ con.f = f:=by
 unfold DA at h
 split at h
 ·split at h
  ·rename_i c hc
   cases hb:Nat.beq c.f f with
   | true =>
    rw[hb] at h
    simp only[cond_true,Option.some.injEq] at h
    subst h
    rw[eB,decide_eq_true_eq] at hb
    exact⟨List.mem_of_getElem? hc,hb⟩
   | false=>rw[hb] at h; cases h
  ·cases h
 ·have h1:=List.mem_of_find?_eq_some h
  have h2:=List.find?_some h
  rw[eB,decide_eq_true_eq] at h2
  exact⟨h1,h2⟩
set_option maxHeartbeats 1000000 in
theorem DT (c:TC):c.un.ids = c.leaves.flatMap TL.gw:=by
 have hl:∀ x:TL,x.un.ids = x.gw:=fun x=>by
  cases x with
  | v t x =>
   show (aJ.ids (match enc t x with | [p]=>.p p | _=>.dead)) = []
   split <;> rfl
  | _=>rfl
 unfold Cmp.ids
 rw[jq]
 induction c.leaves with
 | nil=>rfl
 | cons x l ih=>rw[List.map_cons,List.flatMap_cons,List.flatMap_cons,ih,hl]
theorem yU (x:TSl):x.un.ids = x.gw:=by
 cases x with
 | dead=>rfl
 | c x=>exact DT x
 | t l =>
  show (l.map TC.un).flatMap Cmp.ids = l.flatMap fun c=>c.leaves.flatMap TL.gw
  induction l with
  | nil=>rfl
  | cons x l ih=>rw[List.map_cons,List.flatMap_cons,List.flatMap_cons,ih,DT]
theorem tI {o:Oper} {k:KE ρ} (hΦ:∀ con ∈ E.Φ,ay E.P con) (hΓ:Γ.hs = E.hs ∧ Γ.fz = E.zs ∧ Γ.mv = E.ns ∧ Γ.bx = E.bs) (hno:ov Γ (un2 fx cur) o) (h:lW E fx o.op o.dst cur k = some r):Stepped E.P Γ fx cur o k r:=by
 obtain⟨dst,op,type,pos,after,g⟩:=o
 have hin:inL Γ.fz dst = qG E dst:=by
  unfold inL qG
  rw[hΓ.2.1]
  cases dst with
  | none=>rfl
  | some d =>
   dsimp only
   rw[Bool.eq_iff_iff,cP]
   simp
 cases op with
 | move x=>exact dC hno (DD h) (by unfold opX opE opY; simp [kJ,dx,dU,gG,opV,Op.cK,fA,fG,Function.comp_def,St.arg,fS]) (by simp)
 | assign x=>exact dC hno (DD h) (by unfold opX opE opY; simp [kJ,dx,dU,gG,opV,Op.cK,fA,fG,Function.comp_def,St.arg,fS]) (by simp)
 | pick c x y=>exact dC hno (I9 h) (by unfold opX opE opY; simp [kJ,dx,dU,gG,opV,Op.cK,fA,fG,Function.comp_def,St.arg,fS]) (by simp)
 | alloc t =>
  unfold lW at h
  dsimp only at h
  split at h
  ·rename_i hz
   exact nomatch h
  ·rename_i hz
   exact dC hno (G8 h) (by rw[im (by dsimp only; rw[hin,hz]; rfl)]; unfold opE opY; simp [gG,Op.cK,fA,fG]) (by simp)
 | load t x=>exact dC hno (Ja h) (by unfold opX opE opY; simp [kJ,dx,dU,gG,opV,Op.cK,fA,fG,Function.comp_def,St.arg,fS,dO]) (by simp)
 | store t x v=>exact dC hno (Ha h) (by unfold opX opE opY; simp [kJ,dx,dU,gG,opV,Op.cK,fA,fG,Function.comp_def,St.arg,fS,dO]) (by simp)
 | nilCheck x=>exact dC hno (K2 h) (by unfold opX opE opY; simp [kJ,dx,dU,gG,opV,Op.cK,fA,fG,Function.comp_def,St.arg,fS]) (by simp)
 | fieldAddr t x f=>exact dC hno (yL h) (by unfold opX opE opY; simp [kJ,dx,dU,gG,opV,Op.cK,fA,fG,Function.comp_def,St.arg,fS]) (by simp)
 | field t x f=>exact dC hno (lH h) (by unfold opX opE opY; simp [kJ,dx,dU,gG,opV,Op.cK,fA,fG,Function.comp_def,St.arg,fS]) (by simp)
 | indexAddr t x i =>
  have hX:opX E.P Γ (un2 fx cur) ⟨dst,.indexAddr t x i,type,pos,after,g⟩ = orE (dX E.P t [dO fx cur (evT fx cur da x),dO fx cur (evT fx cur da i)]) (yp E.P t [dO fx cur (evT fx cur da x),dO fx cur (evT fx cur da i)]):=by
   unfold opX opE opY; simp [kJ,dx,dU,opV,Op.cK,St.arg,fS,dO]
  have h:KO E.P fx cur t (evT fx cur da x) (evT fx cur da i) k = some r:=h
  unfold KO at h
  split at h
  ·rename_i m e hu
   refine yT hno (Jd hu h) ?_ hX (by simp)
   have hne:dW E.P t = none:=by unfold dW; rw[hu]
   unfold dX
   split <;> first | rfl | rw[hne]
  ·exact pY hno (yM h) hX (by simp)
 | index t x i=>exact dC hno (Hb h) (by unfold opX opE opY; simp [kJ,dx,dU,gG,opV,Op.cK,fA,fG,Function.comp_def,St.arg,fS]) (by simp)
 | binOp b t x y t' =>
  unfold lW at h
  dsimp only at h
  split at h
  ·rename_i hz
   split at h
   ·rename_i hb
    obtain⟨_,h⟩:=Jh h
    refine dC hno h ?_ (by simp)
    have ht:dU (.binOp b t x y t') = true:=by cases b <;> first | rfl | cases hb
    rw[w7 (by dsimp only; rw[hin,hz]; exact ht)]
    simp [zV,Op.cK,St.arg,fS,dO]
   ·obtain⟨rfl,x',wr,c,h1,h2,h3⟩:=I8 h
    refine dC (op':=some ⟨c,x'.un,dN wr⟩) hno ⟨x',wr,c,h1,rfl,h3⟩ ?_ (by simp)
    rw[uF (by dsimp only; rw[hin,hz]; rfl)]
    show rM _ = _
    rw[← h2]
    simp [Op.cK,fS]
  ·rename_i hz
   have hX:opX E.P Γ (un2 fx cur) ⟨dst,.binOp b t x y t',type,pos,after,g⟩ = orE (jP E.P b t [(evT fx cur da x).un,(evT fx cur da y).un]) (zQ E.P b t [(evT fx cur da x).un,(evT fx cur da y).un]):=by
    rw[im (by dsimp only; rw[hin,hz]; rfl)]
    unfold opE opY; simp [gG,opV,Op.cK,Function.comp_def,St.arg,fS]
   split at h
   ·rename_i xs ys hx hy
    obtain⟨y',wr,c,h1,h2,h3⟩:=K6 h
    refine dC (op':=some ⟨c,y'.un,dN wr⟩) hno ⟨y',wr,c,h1,rfl,h3⟩ ?_ (by simp)
    rw[hX,hx,hy]
    have h4:zQ E.P b t [TSl.un (.c (.g xs)),TSl.un (.c (.g ys))] = some ⟨c,y'.un,dN wr⟩:=by unfold zQ; rw[h2]
    rw[h4]
    rfl
   ·split at h
    ·obtain⟨h5,h6,h7⟩:=Me (P:=E.P) (t:=t) h
     obtain⟨y',wr,c,h1,h2,h3⟩:=h7
     refine dC (op':=some ⟨c,y'.un,dN wr⟩) hno ⟨y',wr,c,h1,rfl,h3⟩ ?_ (by simp)
     rw[hX,h5]
     show zQ E.P b t _ = _
     unfold zQ
     rw[h6,h2]
    ·obtain⟨y',wr,c,h1,h2,h3⟩:=K5 h
     refine dC (op':=some ⟨c,y'.un,dN wr⟩) hno ⟨y',wr,c,h1,rfl,h3⟩ ?_ (by simp)
     rw[hX,h2]; rfl
 | unOp b t x=>exact dC hno (Mf h) (by unfold opX opE opY; simp [kJ,dx,dU,gG,opV,Op.cK,fA,fG,Function.comp_def,St.arg,fS]) (by simp)
 | extract x i=>exact dC hno (CA h) (by unfold opX opE opY; simp [kJ,dx,dU,gG,opV,Op.cK,fA,fG,Function.comp_def,St.arg,fS]) (by simp)
 | build t ps=>exact dC hno (Hc h) (by unfold opX opE opY; simp [kJ,dx,dU,gG,opV,Op.cK,fA,fG,Function.comp_def,St.arg,fS]) (by simp)
 | buildSlice t n ps =>
  unfold lW at h
  dsimp only at h
  split at h
  ·rename_i d'
   cases hz:cm E.zs d' with
   | true =>
    rw[hz,cond_true] at h
    obtain⟨x,wr,c,h1,h2,h3⟩:=EZ h
    refine dC (op':=some ⟨c,x.un,dN wr⟩) hno ⟨x,wr,c,h1,rfl,h3⟩ ?_ (by simp)
    have hf:(inL Γ.fz (some d') && dx (.buildSlice t n ps)) = true:=by
     rw[hΓ.2.1]
     show (E.zs.contains d' && true) = true
     rw[Bool.and_true,List.contains_iff_mem]; exact (cP _ _).1 hz
    rw[uF hf]
    have hmv:inL Γ.mv (some d') = cm E.ns d':=by
     show Γ.mv.contains d' = _
     rw[hΓ.2.2.1,Bool.eq_iff_iff,cP,List.contains_iff_mem]
    have e1:List.map (un2 fx cur).ev (Op.cK (.buildSlice t n ps)) = (ps.toList.map fun p=>evT fx cur da p.2).map TSl.un:=by
     simp [Op.cK,Function.comp_def,fS]
    dsimp only
    rw[e1,hmv]
    exact h2
   | false =>
    rw[hz,cond_false] at h
    have hnz:(inL Γ.fz (some d') && dx (.buildSlice t n ps)) = false:=by
     rw[hΓ.2.1]
     show (E.zs.contains d' && true) = false
     rw[Bool.and_true,Bool.eq_false_iff]
     intro hc
     rw[List.contains_iff_mem] at hc
     rw[(cP _ _).2 hc] at hz; cases hz
    have hX:opX E.P Γ (un2 fx cur) ⟨some d',.buildSlice t n ps,type,pos,after,g⟩ = orE (dB E.P t n (ps.toList.map (·.1)) (some d') (bN (un2 fx cur).hp (some d')) ((ps.toList.map fun p=>evT fx cur da p.2).map (dO fx cur))) (eM E.P t n (ps.toList.map (·.1)) (some d') (bN (un2 fx cur).hp (some d')) ((ps.toList.map fun p=>evT fx cur da p.2).map TSl.un)):=by
     rw[im hnz]
     unfold opE opY; simp [opV,Op.cK,Function.comp_def,St.arg,fS,dO]
    rcases CB h with⟨h1,h2⟩ | h2
    ·rw[h1] at hX
     exact dC hno h2 hX (by simp)
    ·exact pY hno h2 hX (by simp)
  ·cases h
 | convert s t x =>
  unfold lW at h
  dsimp only at h
  split at h
  ·rename_i hz
   exact nomatch h
  ·rename_i hz
   exact dC hno (Jc h) (by rw[im (by dsimp only; rw[hin,hz]; rfl)]; unfold opE opY; simp [gG,opV,Op.cK,fA,fG,Function.comp_def,St.arg,fS,dO]) (by simp)
 | mapEntry t m x=>exact nomatch h
 | entryStore t m st v=>exact nomatch h
 | slice t x l hh m =>
  cases m with
  | none =>
   cases hz:qG E dst with
   | true =>
    have h':Kc E.P fx cur t l.isSome hh.isSome dst (evT fx cur da x) ((l.toList ++ hh.toList).map (evT fx cur da)) k = some r:=by
     unfold lW at h
     cases l <;> cases hh <;> (dsimp only at h; rw[hz] at h; exact h)
    exact nomatch h'
   | false =>
    have h':yJ E.P fx cur t l.isSome hh.isSome (evT fx cur da x) ((l.toList ++ hh.toList).map (evT fx cur da)) k = some r:=by
     unfold lW at h
     cases l <;> cases hh <;> (dsimp only at h; rw[hz] at h; exact h)
    exact dC hno (Hd h') (by rw[im (by dsimp only; rw[hin,hz]; rfl)]; unfold opE opY; simp [gG,Op.cK,fA,fG,Function.comp_def,Jm]) (by simp)
  | some m =>
   cases l with
   | some l=>cases hh <;> cases h
   | none =>
    cases hh with
    | none=>cases h
    | some hh=>exact nomatch h
 | box t x=>exact dC hno (K9 h) (by unfold opX opE opY; simp [kJ,dx,dU,gG,opV,Op.cK,fA,fG,Function.comp_def,St.arg,fS]) (by simp)
 | makeMap t rs =>
  cases rs with
  | none =>
   unfold lW at h
   dsimp only at h
   split at h
   ·rename_i hz
    exact nomatch h
   ·rename_i hz
    exact dC hno (CD h) (by rw[im (by dsimp only; rw[hin,hz]; rfl)]; unfold opE opY; simp [gG,Op.cK,fA,fG]) (by simp)
  | some m=>cases h
 | lookup t m x ok =>
  have hL:(inL Γ.fz dst && dU (.lookup t m x ok)) = false → GR E.P fx cur E.H t ok (evT fx cur da m) (evT fx cur da x) k = some r → Stepped E.P Γ fx cur ⟨dst,.lookup t m x ok,type,pos,after,g⟩ k r:=fun hnt h=>by
   have hX:opX E.P Γ (un2 fx cur) ⟨dst,.lookup t m x ok,type,pos,after,g⟩ = orE (gd E.P t ok [dO fx cur (evT fx cur da m),dO fx cur (evT fx cur da x)]) (match ok with | false=>tv E.P t [(evT fx cur da m).un,(evT fx cur da x).un] | true=>none):=by
    rw[im (by
     dsimp only
     unfold kJ
     rw[show dx (.lookup t m x ok) = false from rfl,Bool.false_or]; exact hnt)]
    unfold opE opY; cases ok <;> simp [opV,Op.cK,St.arg,fS,dO]
   unfold GR at h
   split at h
   ·rename_i heq
    exact pY hno (He heq h) hX (by simp)
   ·rename_i kd e m' heq
    cases ok with
    | true=>cases h
    | false =>
     have h:Cr E.P t (evT fx cur da m) (evT fx cur da x) k = some r:=h
     refine yT hno (Hf h) ?_ hX (by simp)
     rw[heq]
     rfl
   ·exact pY hno (iP h) hX (by simp)
  unfold lW at h
  cases ok with
  | true=>exact hL (by simp [dU]) h
  | false =>
   cases hz:qG E dst with
   | true =>
    dsimp only at h
    rw[hz] at h
    exact nomatch h
   | false =>
    dsimp only at h
    rw[hz] at h
    exact hL (by rw[hin,hz]; rfl) h
 | mapUpdate t m x v =>
  have hX:opX E.P Γ (un2 fx cur) ⟨dst,.mapUpdate t m x v,type,pos,after,g⟩ = orE (fb E.P t [dO fx cur (evT fx cur da m),dO fx cur (evT fx cur da x),dO fx cur (evT fx cur da v)]) (yq E.P t [dO fx cur (evT fx cur da m),dO fx cur (evT fx cur da x),dO fx cur (evT fx cur da v)]):=by
   unfold opX opE opY; simp [kJ,dx,dU,opV,Op.cK,St.arg,fS,dO]
  have h:KP E.P fx cur t (evT fx cur da m) (evT fx cur da x) (evT fx cur da v) k = some r:=h
  unfold KP at h
  split at h
  ·rename_i o heq
   split at h
   ·rename_i kd e te mm hh ho
    rw[heq] at hX
    refine yT hno (Je h) ?_ hX (by simp)
    show fb E.P t [(.c (.v (.mp o)),[(un2 fx cur).hp o]),_,_] = none
    rw[dI ho]
    rfl
   ·exact pY hno (qN h) hX (by simp)
  ·exact pY hno (qN h) hX (by simp)
 | makeSlice t x y=>exact nomatch h
 | makeFunc fn first caps =>
  cases fn with
  | func f =>
   unfold lW at h
   dsimp only at h
   exact dC hno (AH h) (by unfold opX opE opY; simp [kJ,dx,dU,gG,opV,Op.cK,fA,fG,Function.comp_def,St.arg,fS]) (by simp)
  | _=>cases h
 | call c =>
  obtain⟨callee,args,ts⟩:=c
  cases callee with
  | builtin b =>
   cases b with
   | len =>
    unfold lW at h
    dsimp only at h
    split at h
    ·rename_i x t h1 h2
     have h1:=tk h1
     have h2:=tk h2
     subst h1 h2
     exact dC hno (K8 h) (by unfold opX opE opY; simp [kJ,dx,dU,gG,opV,Op.cK,fA,fG,Function.comp_def,St.arg,fS,dO]) (fun c f hc=>by cases hc; simp)
    ·cases h
   | append =>
    unfold lW at h
    dsimp only at h
    split at h
    ·rename_i x y t t' h1 h2
     have h1:=tk h1
     have h2:=tk h2
     cases hb:Nat.beq t t' with
     | false =>
      rw[hb,cond_false] at h
      have hne:¬ t = t':=fun e=>by
       rw[eB,decide_eq_false_iff_not] at hb
       exact hb e
      subst h1 h2
      cases hz:qG E dst with
      | true=>rw[hz] at h; cases h
      | false =>
      rw[hz] at h
      exact nomatch h
     | true =>
     rw[hb,cond_true] at h
     have ht:=hb
     rw[eB,decide_eq_true_eq] at ht
     subst h1 h2 ht
     cases hz:qG E dst with
     | true =>
      rw[hz] at h
      exact dC hno (Jf h) (by rw[w7 (by dsimp only; rw[hin,hz]; rfl)]; simp [zV,Op.cK,St.arg,fS,dO]) (fun c f hc=>by cases hc; simp)
     | false =>
     rw[hz] at h
     have h7:xp E.P E.H fx cur t dst (evT fx cur da x) (evT fx cur da y) k = some r:=h
     have hX:opX E.P Γ (un2 fx cur) ⟨dst,.call ⟨.builtin .append,[x,y].toArray,[t,t].toArray⟩,type,pos,after,g⟩ = orE (ga E.P t dst (bN (un2 fx cur).hp dst) [dO fx cur (evT fx cur da x),dO fx cur (evT fx cur da y)]) (kI E.P t dst (bN (un2 fx cur).hp dst) [dO fx cur (evT fx cur da x),dO fx cur (evT fx cur da y)]):=by
      rw[im (by dsimp only; rw[hin,hz]; rfl)]; unfold opE opY; simp [opV,Op.cK,St.arg,fS,dO]
     rcases CE h7 with⟨t',l,hx⟩ | h8
     ·rw[hx] at h7 hX
      exact yT hno (Jg h7) (by rfl) hX (fun c f hc=>by cases hc; simp)
     ·exact pY hno (E0 h8) hX (fun c f hc=>by cases hc; simp)
    ·cases h
   | cap =>
    unfold lW at h
    dsimp only at h
    split at h
    ·rename_i x t h1 h2
     have h1:=tk h1
     have h2:=tk h2
     subst h1 h2
     exact nomatch h
    ·cases h
   | copy =>
    unfold lW at h
    dsimp only at h
    split at h
    ·rename_i x y t u h1 h2
     have h1:=tk h1
     have h2:=tk h2
     subst h1 h2
     exact nomatch h
    ·cases h
   | clear =>
    unfold lW at h
    dsimp only at h
    split at h
    ·rename_i x t h1 h2
     have h1:=tk h1
     have h2:=tk h2
     subst h1 h2
     exact nomatch h
    ·cases h
   | min =>
    unfold lW at h
    dsimp only at h
    split at h
    ·rename_i x y h1
     have h1:=tk h1
     subst h1
     exact nomatch h
    ·cases h
   | max =>
    unfold lW at h
    dsimp only at h
    split at h
    ·rename_i x y h1
     have h1:=tk h1
     subst h1
     exact nomatch h
    ·cases h
   | _=>cases h
  | value f =>
   unfold lW at h
   dsimp only at h
   split at h
   ·rename_i fid caps d hev
    have key:∀ con,con ∈ E.Φ → con.f = fid / 2 → Aw E fx cur ⟨.value f,args,ts⟩ caps fid d con k = some r → Stepped E.P Γ fx cur ⟨some d,.call ⟨.value f,args,ts⟩,type,pos,after,g⟩ k r:=by
     intro con hm hf h
     unfold Aw at h
     obtain⟨hc,h⟩:=a7 h
     have hfo:(un2 fx cur).ev f = .c (.v (.fn fid caps)):=by rw[fS,hev]; rfl
     have hargs:fF (un2 fx cur) ⟨.value f,args,ts⟩ fid caps = (cond (Nat.beq (fid % 2) 0) (args.toList.map (evT fx cur da) ++ caps.map fun o=>tL (.loc o 0)) ((caps.map fun o=>tL (.loc o 0)) ++ args.toList.map (evT fx cur da))).map TSl.un:=by
      have e1:args.toList.map (un2 fx cur).ev = (args.toList.map (evT fx cur da)).map TSl.un:=by
       rw[List.map_map]
       exact List.map_congr_left fun x _=>fS fx cur x
      have e2:(caps.map fun o=>Slot.c (.v (.loc o 0))) = (caps.map fun o=>tL (.loc o 0)).map TSl.un:=by rw[List.map_map]; rfl
      unfold fF
      dsimp only
      by_cases h2:fid % 2 = 0
      ·rw[if_pos h2,show Nat.beq (fid % 2) 0 = true by rw[eB]; simp [h2],cond_true,List.map_append,e1,e2]
      ·rw[if_neg h2,show Nat.beq (fid % 2) 0 = false by rw[eB]; simp [h2],cond_false,List.map_append,e1,e2]
     obtain⟨y,wr,h1,e,h2,h3,h4⟩:=Hi (Γ:=Γ) (o:=⟨some d,.call ⟨.value f,args,ts⟩,type,pos,after,g⟩) (hΦ con hm) rfl rfl rfl hfo hf.symm hargs (fun hp=>by
      unfold lx at hp
      dsimp only at hp
      rw[hΓ.1] at hp
      rw[Bool.and_eq_true,Bool.and_eq_true] at hc
      have hc:=hc.1.2
      split at hc
      ·rename_i k1 k2
       rw[Bool.or_eq_true] at hc
       rcases hc with hc | hc
       ·exact⟨k1,k2,hc⟩
       ·rw[cP] at hc
        rw[Bool.not_eq_true',List.contains_eq_mem,decide_eq_false_iff_not] at hp
        exact absurd hc hp
      ·rw[cP] at hc
       rw[Bool.not_eq_true',List.contains_eq_mem,decide_eq_false_iff_not] at hp
       exact absurd hc hp) (fun hp x hx i hi=>by
      unfold lx at hp
      dsimp only at hp
      rw[hΓ.1] at hp
      rw[Bool.and_eq_true,Bool.and_eq_true,Bool.or_eq_true] at hc
      rcases hc.1.1 with hl | hl
      ·rw[cP] at hl
       rw[Bool.not_eq_true',List.contains_eq_mem,decide_eq_false_iff_not] at hp
       exact absurd hl hp
      ·unfold GY at hl
       rw[yU] at hi
       have h1:=List.all_eq_true.1 (List.all_eq_true.1 hl x hx) i hi
       rw[fO]
       cases ho:obT fx cur i with
       | none=>rw[ho] at h1; cases h1
       | some v =>
        rw[ho] at h1
        refine⟨by simp,fun e cs he=>?_⟩
        cases v with
        | lit e cs=>cases h1
        | _=>simp [cY.un] at he) (fun hp=>by
      unfold om at hp
      dsimp only at hp
      rw[hΓ.1,List.contains_iff_mem] at hp
      rw[Bool.and_eq_true] at hc
      have hc:=hc.2
      split at hc
      ·rename_i k1; exact k1
      ·rw[(cP _ _).2 hp] at hc; cases hc) h
     exact⟨y,wr,h1,e,h2,h3,h4⟩
    split at h
    ·rename_i con hcon
     obtain⟨hm,hf⟩:=AV hcon
     split at h
     ·exact key con hm hf h
     ·split at h
      ·rename_i con2 hcon2
       obtain⟨hm2,hf2⟩:=AV hcon2
       unfold orT at h
       split at h
       ·rename_i r' hr
        injection h with h
        subst h
        exact key con hm hf hr
       ·exact key con2 hm2 hf2 h
      ·cases h
    ·cases h
   ·cases h
  | invoke _ _=>cases h
 | _=>cases h
theorem yV {l:List Nat} {d:Nat}:inL l (some d) = cm l d:=by
 rw[Bool.eq_iff_iff,cP]
 show l.contains d = true ↔ _
 rw[List.contains_iff_mem]
theorem Lb {o:Oper} {k:KE ρ} (hΦ:∀ con ∈ E.Φ,ay E.P con) (hΓ:Γ.hs = E.hs ∧ Γ.fz = E.zs ∧ Γ.mv = E.ns ∧ Γ.bx = E.bs) (h:opT E fx o.op o.dst cur k = some r):Stepped E.P Γ fx cur o k r:=by
 unfold opT at h
 obtain⟨hbt,h⟩:=a7 h
 have hbt:Kr Γ (un2 fx cur) o:=fun k hk t ht i hi=>by
  unfold Kf at hbt
  rw[hk] at hbt
  rw[hΓ.2.2.2] at ht
  obtain⟨e,he,h1⟩:=List.any_eq_true.1 ht
  rw[Bool.and_eq_true] at h1
  have h2:=List.all_eq_true.1 hbt e he
  rw[h1.1,cond_true] at h2
  rw[fS,yU] at hi
  have h3:=List.all_eq_true.1 h2 i hi
  have e2:=Nat.eq_of_beq_eq_true h1.2
  cases hb:Nat.ble 500000 (e % 1000000) with
  | true =>
   rw[hb,cond_true] at h3
   have e1:=Nat.eq_of_beq_eq_true h3
   exact .inr (e1.trans e2)
  | false =>
   rw[hb,cond_false] at h3
   have hlt:e % 1000000 < 500000:=by
    rw[← Bool.not_eq_true,Nat.ble_eq] at hb; omega
   split at h3
   ·rename_i t' cs ho
    have e1:=Nat.eq_of_beq_eq_true h3
    refine .inl ⟨by omega,?_⟩
    rw[← e2,← e1]
    exact⟨_,dI ho⟩
   ·cases h3
 unfold Ma at h
 cases hd:o.dst with
 | none =>
  rw[hd] at h
  exact tI hΦ hΓ ⟨fun hc=>(by rw[hd] at hc; cases hc),fun _ hc=>(by rw[hd] at hc; cases hc),hbt⟩ (by rw[hd]; exact h)
 | some d =>
  rw[hd] at h
  dsimp only at h
  cases hn:cm E.ns d with
  | true =>
   rw[hn,cond_true] at h
   obtain⟨hi,h⟩:=a7 h
   refine tI hΦ hΓ ⟨fun _ x hx=>?_,fun hc=>?_,hbt⟩ (by rw[hd]; exact h)
   ·have:=List.all_eq_true.1 hi x hx
    rw[fS,yU]
    split at this
    ·assumption
    ·cases this
   ·rw[hd,hΓ.2.2.1,yV,hn] at hc; cases hc
  | false =>
   rw[hn,cond_false] at h
   have h1:inL Γ.mv o.dst = true → False:=fun hc=>by rw[hd,hΓ.2.2.1,yV,hn] at hc; cases hc
   cases hb:cm E.bs d with
   | true =>
    rw[hb,cond_true] at h
    obtain⟨hi,h⟩:=a7 h
    refine tI hΦ hΓ ⟨fun hc=>(h1 hc).elim,fun _ _ x hx i hxi=>?_,hbt⟩ (by rw[hd]; exact h)
    rw[fS,yU] at hxi
    cases hsl:uE o.op with
    | true =>
     rw[if_pos rfl]
     rw[hsl,cond_true] at hi
     have:=List.all_eq_true.1 (List.all_eq_true.1 hi x hx) i hxi
     split at this
     ·rename_i t cs l ho; exact⟨_,_,_,dI ho⟩
     ·cases this
    | false =>
     rw[if_neg (by simp)]
     rw[hsl,cond_false] at hi
     have:=List.all_eq_true.1 (List.all_eq_true.1 hi x hx) i hxi
     split at this
     ·rename_i t cs ho; exact⟨_,_,dI ho⟩
     ·cases this
   | false =>
    rw[hb,cond_false] at h
    refine tI hΦ hΓ ⟨fun hc=>(h1 hc).elim,fun _ hc=>?_,hbt⟩ (by rw[hd]; exact h)
    rw[hd,hΓ.2.2.2,yV,hb] at hc; cases hc
theorem dY {α:Type}:∀ (l:List (Nat × TSl)) (k:List (Nat × TSl) → α),eE l k = k l
 | [],k=>rfl
 | (i,.dead) :: l,k=>by unfold eE; exact dY l _
 | (i,.c (.v (.v t y))) :: l,k=>by unfold eE; exact dY l _
 | (i,.c (.v .dead)) :: l,k=>by unfold eE; exact dY l _
 | (i,.c (.v .nil)) :: l,k=>by unfold eE; exact dY l _
 | (i,.c (.v (.loc _ _))) :: l,k=>by unfold eE; exact dY l _
 | (i,.c (.v (.own _))) :: l,k=>by unfold eE; exact dY l _
 | (i,.c (.v (.el _ _ _ _))) :: l,k=>by unfold eE; exact dY l _
 | (i,.c (.v (.ip _ _ _))) :: l,k=>by unfold eE; exact dY l _
 | (i,.c (.v (.mp _))) :: l,k=>by unfold eE; exact dY l _
 | (i,.c (.v (.fn _ _))) :: l,k=>by unfold eE; exact dY l _
 | (i,.c (.v (.sv _ _ _ _))) :: l,k=>by unfold eE; exact dY l _
 | (i,.c (.v (.oth _))) :: l,k=>by unfold eE; exact dY l _
 | (i,.c (.v (.nb _ _ _))) :: l,k=>by unfold eE; exact dY l _
 | (i,.c (.v (.tl _ _))) :: l,k=>by unfold eE; exact dY l _
 | (i,.c (.g _)) :: l,k=>by unfold eE; exact dY l _
 | (i,.t _) :: l,k=>by unfold eE; exact dY l _
theorem xF {ops:List Oper} {g d:Nat} {x:TSl} (h:Cw fx ops cur g = some (d,x)):ie ops (un2 fx cur) g = x.un ∧ je fx cur d = x:=by
 unfold Cw at h
 unfold ie
 split at h
 ·rename_i o ho
  split at h
  ·rename_i d' hd
   injection h with h
   injection h with h1 h2
   subst h1
   rw[oG] at h2
   have hx:je fx cur d' = x:=h2
   rw[ho]
   refine⟨?_,hx⟩
   show (match o.dst with | some d=>(un2 fx cur).tm d | none=>.dead) = _
   rw[hd]
   show (un2 fx cur).tm d' = _
   rw[gq,hx]
  ·cases h
 ·cases h
theorem Hj {d:Nat} {c:Bool} (h:je fx cur d = tV .bool c):un2 fx ⟨pA cur.tm d (tV .bool c),cur.hp⟩ = un2 fx cur:=by
 refine St.ext' (fun k=>?_) (fun o=>?_)
 ·rw[gq,gq]
  unfold je at h ⊢
  dsimp only
  rw[bT,nA]
  by_cases hk:k = d
  ·subst hk
   rw[if_pos rfl,h]; rfl
  ·rw[if_neg hk,bT]
 ·rw[fO,fO]; rfl
theorem yW (d:Option Nat):(un2 fx cur).app d nP = un2 fx (pB cur d (.t []) []):=CG d (.t []) [] True
theorem lK {t:Ty} {l:TL} {k:t.den → List Nat → Option ρ} (hlf:nB t = true) (h:GZ fx cur t l k = some r):∃ x os,k x os = some r ∧ ∀ σ hps,σ.v = none → (∀ o ∈ os,o ∉ σ.m.map (·.1)) → mu σ (un2 fx cur) hps l.un (TL.v t x).un:=by
 unfold GZ at h
 split at h
 ·rename_i t' x
  obtain⟨y,h,he⟩:=jU h
  exact⟨_,_,h,fun σ hps _ _=>by rw[oH he]; exact kD _ _ _⟩
 ·obtain⟨y,h,he⟩:=rT h
  refine⟨_,_,h,fun σ hps _ _=>?_⟩
  have hu:(TL.v t y).un = .p (.sl []):=by
   show (match enc t y with | [p]=>aJ.p p | _=>.dead) = _
   rw[he]
  rw[hu]; rfl
 ·rename_i o
  split at h
  ·rename_i e t' l ho
   obtain⟨y,h,he⟩:=jU h
   refine⟨_,_,h,fun σ hps hv ho2=>?_⟩
   have hu:(TL.v t y).un = .p (.sl (l.map (enc t'))):=oH he
   rw[hu]
   refine⟨?_,ho2 o (by simp),?_⟩
   ·rw[dI ho]; rfl
   ·unfold Ren.may; rw[hv]; trivial
  ·cases h
 ·cases h
theorem vC:∀ (t:Ty) (ls:List TL) (k:t.den → List Nat → List TL → Option ρ),Ax fx cur t ls k = some r → ∃ x os rest,k x os rest = some r ∧ ∃ pre,ls = pre ++ rest ∧ ∀ σ hps,σ.v = none → (∀ o ∈ os,o ∉ σ.m.map (·.1)) → ju σ (un2 fx cur) hps (pre.map TL.un) ((dH t x).map TL.un)
 | .pair a b,ls,k,h=>by
  unfold Ax at h
  obtain⟨x,os,r1,h1,p1,rfl,e1⟩:=vC a ls _ h
  obtain⟨y,ps,r2,h2,p2,rfl,e2⟩:=vC b r1 _ h1
  refine⟨(x,y),os ++ ps,r2,h2,p1 ++ p2,by rw[List.append_assoc],fun σ hps hv ho=>?_⟩
  show ju σ _ hps ((p1 ++ p2).map TL.un) ((dH a x ++ dH b y).map TL.un)
  rw[List.map_append,List.map_append]
  exact se (e1 σ hps hv fun o h=>ho o (List.mem_append_left _ h)) (e2 σ hps hv fun o h=>ho o (List.mem_append_right _ h))
 | .any,[],k,h=>by cases h
 | .int kd,[],k,h=>by cases h
 | .bool,[],k,h=>by cases h
 | .str,[],k,h=>by cases h
 | .sl e,[],k,h=>by cases h
 | .map kd e,[],k,h=>by cases h
 | .map kd e,l :: ls,k,h=>by obtain⟨x,os,h2,e⟩:=lK (t := .map kd e) rfl h; exact⟨x,os,ls,h2,[l],rfl,fun σ hps hv ho=>⟨e σ hps hv ho,trivial⟩⟩
 | .slu i,[],k,h=>by cases h
 | .slu i,l :: ls,k,h=>by
  obtain⟨x,os,h2,e⟩:=lK (t := .slu i) rfl h
  refine⟨x,os,ls,h2,[l],rfl,fun σ hps hv ho=>⟨?_,trivial⟩⟩
  have e1:=e σ hps hv ho
  rw[← oH (a := .slu i) (x:=x) (pf i x)] at e1
  exact e1
 | .any,l :: ls,k,h=>by obtain⟨x,os,h2,e⟩:=lK (t := .any) rfl h; exact⟨x,os,ls,h2,[l],rfl,fun σ hps hv ho=>⟨e σ hps hv ho,trivial⟩⟩
 | .int kd,l :: ls,k,h=>by obtain⟨x,os,h2,e⟩:=lK (t := .int kd) rfl h; exact⟨x,os,ls,h2,[l],rfl,fun σ hps hv ho=>⟨e σ hps hv ho,trivial⟩⟩
 | .bool,l :: ls,k,h=>by obtain⟨x,os,h2,e⟩:=lK (t := .bool) rfl h; exact⟨x,os,ls,h2,[l],rfl,fun σ hps hv ho=>⟨e σ hps hv ho,trivial⟩⟩
 | .str,l :: ls,k,h=>by obtain⟨x,os,h2,e⟩:=lK (t := .str) rfl h; exact⟨x,os,ls,h2,[l],rfl,fun σ hps hv ho=>⟨e σ hps hv ho,trivial⟩⟩
 | .sl e,l :: ls,k,h=>by obtain⟨x,os,h2,e⟩:=lK (t := .sl e) rfl h; exact⟨x,os,ls,h2,[l],rfl,fun σ hps hv ho=>⟨e σ hps hv ho,trivial⟩⟩
theorem mG {te:Ty}:∀ (l:List Operand) (k:List (Nat × TSl) → List Nat → Option ρ),vi fx cur te l k = some r → ∃ ns os,k ns os = some r ∧ ∀ σ hps,σ.v = none → (∀ o ∈ os,o ∉ σ.m.map (·.1)) → ∀ x ∈ ns,oe σ (un2 fx cur) hps (je fx cur x.1).un x.2.un
 | [],k,h=>⟨[],[],h,fun _ _ _ _ x hx=>nomatch hx⟩
 | .tmp t :: l,k,h=>by
  unfold vi at h
  split at h
  ·rename_i c hc
   obtain⟨x,os,rest,h1,pre,hp,e1⟩:=vC te _ _ h
   split at h1
   ·rw[List.append_nil] at hp
    obtain⟨ns,ps,h2,e2⟩:=mG l _ h1
    refine⟨_,_,h2,fun σ hps hv ho y hy=>?_⟩
    rcases List.mem_cons.1 hy with rfl | hy
    ·have ht:je fx cur t = .c c:=by
      unfold je
      rw[oG] at hc
      rw[hc]; rfl
     dsimp only
     rw[ht]
     have h3:=e1 σ hps hv fun o h=>ho o (List.mem_append_left _ h)
     rw[← hp] at h3
     cases c with
     | g xs=>exact h3
     | v y =>
      simp only[TC.leaves,List.map_cons,List.map_nil] at h3
      show mu σ _ hps y.un (TL.un (match dH te x with | y :: _=>y | []=>.dead))
      cases hl:dH te x with
      | nil=>rw[hl] at h3; exact h3.elim
      | cons z zs=>rw[hl] at h3; exact h3.1
    ·exact e2 σ hps hv (fun o h=>ho o (List.mem_append_right _ h)) y hy
   ·cases h1
  ·cases h
 | .const _ :: l,k,h=>mG l k h
 | .global _ :: l,k,h=>mG l k h
 | .func _ :: l,k,h=>mG l k h
theorem mf {α:Type}:∀ (l:List (Nat × α)) (seen:List Nat),(aW (fk seen l)).Nodup
 | [],_=>List.nodup_nil
 | x :: l,seen=>by
  unfold fk
  cases hs:cm seen x.1 with
  | true=>rw[cond_true]; exact mf l seen
  | false =>
   rw[cond_false]
   show (x.1 :: aW (fk (x.1 :: seen) l)).Nodup
   refine List.nodup_cons.2 ⟨fun hm=>?_,mf l _⟩
   obtain⟨y,hy,he⟩:=List.mem_map.1 hm
   have:=(iQ l (x.1 :: seen) y hy).1
   rw[he,(cP _ _).2 List.mem_cons_self] at this
   cases this
theorem vD {os:List Nat} {σ:Ren} {hps:List (Nat × dv)} (hv:σ.v = none) (ho:∀ o ∈ os,o ∉ σ.m.map (·.1)) (x:TL) (h:∀ i ∈ (ny fx cur os x).gw,nD σ hps i):mu σ (un2 fx cur) hps x.un (ny fx cur os x).un:=by
 cases x with
 | own o =>
  have e:ny fx cur os (.own o) = cond (cm os o) (match obT fx cur o with | some (.arr _ t l)=>TL.v (.sl t) l | _=>.own o) (.own o):=rfl
  rw[e] at h ⊢
  cases hb:cm os o with
  | true =>
   rw[hb,cond_true] at h
   rw[cond_true]
   split
   ·rename_i ee t l hob
    refine⟨?_,ho o ((cP _ _).1 hb),?_⟩
    ·rw[dI hob]; rfl
    ·unfold Ren.may; rw[hv]; trivial
   ·split at h
    ·rename_i hno _ ee t l hob
     exact absurd hob (hno _ _ _)
    ·exact eY _ h
  | false=>rw[hb,cond_false] at h; rw[cond_false]; exact eY _ h
 | dead=>exact eY _ h
 | v t x=>exact eY _ h
 | nil=>exact eY _ h
 | loc o off=>exact eY _ h
 | el o n off z=>exact eY _ h
 | ip t x off=>exact eY _ h
 | mp o=>exact eY _ h
 | fn f caps=>exact eY _ h
 | sv o a b z=>exact eY _ h
 | oth v=>exact eY _ h
 | nb pos t l=>exact eY _ h
 | tl t l=>exact eY _ h
theorem kZ {os:List Nat} {σ:Ren} {hps:List (Nat × dv)} (hv:σ.v = none) (ho:∀ o ∈ os,o ∉ σ.m.map (·.1)):∀ (xs:List TL),(∀ i ∈ (xs.map (ny fx cur os)).flatMap TL.gw,nD σ hps i) → ju σ (un2 fx cur) hps (xs.map TL.un) ((xs.map (ny fx cur os)).map TL.un)
 | [],_=>trivial
 | x :: xs,h=>⟨vD hv ho x fun i hi=>h i (by simp [hi]),kZ hv ho xs fun i hi=>h i (by rw[List.map_cons,List.flatMap_cons]; exact List.mem_append_right _ hi)⟩
theorem xG {os:List Nat} {σ:Ren} {hps:List (Nat × dv)} (hv:σ.v = none) (ho:∀ o ∈ os,o ∉ σ.m.map (·.1)) (c:TC) (h:∀ i ∈ (vk fx cur os c).leaves.flatMap TL.gw,nD σ hps i):rK σ (un2 fx cur) hps c.un (vk fx cur os c).un:=by
 cases c with
 | v x=>exact vD hv ho x fun i hi=>h i (by simpa [vk,TC.leaves] using hi)
 | g xs=>exact kZ hv ho xs h
theorem vE {os:List Nat} {σ:Ren} {hps:List (Nat × dv)} (hv:σ.v = none) (ho:∀ o ∈ os,o ∉ σ.m.map (·.1)):∀ (l:List TC),(∀ i ∈ (l.map (vk fx cur os)).flatMap (fun c=>c.leaves.flatMap TL.gw),nD σ hps i) → pE σ (un2 fx cur) hps (l.map TC.un) ((l.map (vk fx cur os)).map TC.un)
 | [],_=>trivial
 | c :: l,h=>⟨xG hv ho c fun i hi=>h i (by rw[List.map_cons,List.flatMap_cons]; exact List.mem_append_left _ hi),vE hv ho l fun i hi=>h i (by rw[List.map_cons,List.flatMap_cons]; exact List.mem_append_right _ hi)⟩
theorem Hk {os:List Nat} {σ:Ren} {hps:List (Nat × dv)} (hv:σ.v = none) (ho:∀ o ∈ os,o ∉ σ.m.map (·.1)) (x:TSl) (h:∀ i ∈ (rY os (Cv fx cur os x)).gw,nD σ hps i):oe σ (un2 fx cur) hps x.un (rY os (Cv fx cur os x)).un:=by
 unfold rY at h ⊢
 cases hb:(Cv fx cur os x).gw.any (cm os) with
 | true=>rw[cond_true]; exact po _
 | false =>
  rw[hb,cond_false] at h
  rw[cond_false]
  cases x with
  | dead=>trivial
  | c c=>exact xG hv ho c h
  | t l=>exact vE hv ho l h
theorem E4 {os:List Nat} {σ:Ren} {hps:List (Nat × dv)} (hv:σ.v = none) (ho:∀ o ∈ os,o ∉ σ.m.map (·.1)) (x:cY) (h:∀ i ∈ (vm fx cur os x).gw,nD σ hps i):yk σ (un2 fx cur) hps (some x.un) (vm fx cur os x).un:=by
 cases x with
 | gone=>trivial
 | box t cs=>exact⟨rfl,kZ hv ho cs h⟩
 | arr e t l=>exact⟨rfl,rfl,rfl⟩
 | ix k agg t m=>exact⟨rfl,rfl,rfl⟩
 | fi agg t m=>exact⟨rfl,rfl⟩
 | iy k agg t m=>exact⟨rfl,rfl,rfl⟩
 | py k agg t m key d=>exact⟨rfl,rfl,rfl,rfl,h d (by simp [vm,cY.gw])⟩
 | jN k e t m h=>exact⟨rfl,rfl,rfl,rfl,rfl⟩
 | lit t cs=>exact⟨rfl,kZ hv ho cs h⟩
theorem AW {os:List Nat} (hfx:∀ o ∈ os,(match look fx.hp o with | some _=>false | none=>true) = true) (hcl:gj ⟨fk [] (zTm fx cur os ++ fx.tm),fk [] (zHp fx cur os ++ fx.hp)⟩ = true) :
  ∃ tms hps σ,Sub σ (un2 fx cur) tms hps ∧ kU tms hps = un2 fx ⟨zTm fx cur os,zHp fx cur os⟩:=by
 let T:=fk [] (zTm fx cur os ++ fx.tm)
 let O:=fk [] (zHp fx cur os ++ fx.hp)
 let σ:Ren:=⟨O.map fun x=>(x.1,x.1),none,true⟩
 have hT:∀ k,ae T k = ae (zTm fx cur os ++ fx.tm) k:=fun k=>by
  show ae (fk [] _) k = _
  rw[fV,if_neg (by simp [cm])]
 have hO:∀ k,ae O k = ae (zHp fx cur os ++ fx.hp) k:=fun k=>by
  show ae (fk [] _) k = _
  rw[fV,if_neg (by simp [cm])]
 have hz:∀ o,ae (zHp fx cur os) o = (if !cm os o then ae cur.hp o else none).map (vm fx cur os):=fun o=>by
  unfold zHp
  rw[gr (vm fx cur os),eu (fun k=>!cm os k)]
 have hnd:(aW O).Nodup:=mf _ _
 have hos:∀ o ∈ os,o ∉ aW O:=fun o ho hk=>by
  have h1:ae O o = none:=by
   rw[hO,bT,hz,(cP os o).2 ho]
   have:=hfx o ho
   rw[look_eq] at this
   show ae fx.hp o = none
   cases hl:ae fx.hp o with
   | none=>rfl
   | some v=>rw[hl] at this; cases this
  exact (gP _ _).1 h1 hk
 have hm1:σ.m.map (·.1) = aW O:=by show (O.map fun x=>(x.1,x.1)).map (·.1) = _; rw[List.map_map]; rfl
 have hm2:σ.m.map (·.2) = aW O:=by show (O.map fun x=>(x.1,x.1)).map (·.2) = _; rw[List.map_map]; rfl
 have hσ:σ.nodup:=⟨by rw[hm1]; exact hnd,by rw[hm2]; exact hnd⟩
 have hod:∀ o ∈ os,o ∉ σ.m.map (·.1):=fun o ho=>by rw[hm1]; exact hos o ho
 have hsame:∀ i ∈ aW O,nD σ (dN O) i:=fun i hi=>by
  obtain⟨y,hy,rfl⟩:=List.mem_map.1 hi
  exact⟨List.mem_map.2 ⟨y,hy,rfl⟩,jY hi⟩
 unfold gj at hcl
 simp only[Bool.and_eq_true,List.all_eq_true] at hcl
 refine⟨kz T,dN O,σ,⟨⟨hσ,rfl,rfl,iR fun x hx _=>?_⟩,iR fun q hq=>?_,iR fun q hq=>?_⟩,?_⟩
 ·obtain⟨y,_,rfl⟩:=List.mem_map.1 hx; rfl
 ·obtain⟨y,hy,rfl⟩:=List.mem_map.1 hq
  dsimp only
  rw[gq]
  have hl:=(iQ _ _ _ hy).2
  have hids:∀ i ∈ y.2.gw,nD σ (dN O) i:=fun i hi=>hsame i ((cP _ _).1 (hcl.1 y hy i hi))
  rw[bT] at hl
  have e1:ae (zTm fx cur os) y.1 = (ae cur.tm y.1).map (fun v=>rY os (Cv fx cur os v)):=gr (fun v=>rY os (Cv fx cur os v)) cur.tm y.1
  rw[e1] at hl
  cases h2:ae cur.tm y.1 with
  | some v =>
   rw[h2] at hl
   have hv:rY os (Cv fx cur os v) = y.2:=by simpa using hl
   have ht:je fx cur y.1 = v:=by unfold je; rw[bT,h2]; rfl
   rw[ht,← hv]
   rw[← hv] at hids
   exact Hk rfl hod v hids
  | none =>
   rw[h2] at hl
   have hl:ae fx.tm y.1 = some y.2:=by simpa using hl
   have ht:je fx cur y.1 = y.2:=by unfold je; rw[bT,h2]; dsimp only; rw[hl]; rfl
   rw[ht]
   exact pq _ hids
 ·obtain⟨y,hy,rfl⟩:=List.mem_map.1 hq
  show HSub σ (un2 fx cur) (dN O) (y.1,y.2.un)
  unfold HSub
  have hk:y.1 ∈ aW O:=mem_keys hy
  rw[jX hσ (hsame _ hk).1]
  dsimp only
  have hl:=(iQ _ _ _ hy).2
  have hids:∀ i ∈ y.2.gw,nD σ (dN O) i:=fun i hi=>hsame i ((cP _ _).1 (hcl.2 y hy i hi))
  rw[bT,hz] at hl
  cases hb:cm os y.1 with
  | true=>exact absurd hk (hos _ ((cP _ _).1 hb))
  | false =>
   rw[hb] at hl
   simp only[Bool.not_false,if_true] at hl
   rw[fO,iE,bT]
   cases h2:ae cur.hp y.1 with
   | some v =>
    rw[h2] at hl
    have hv:vm fx cur os v = y.2:=by simpa using hl
    rw[← hv] at hids ⊢
    exact E4 rfl hod v hids
   | none =>
    rw[h2] at hl
    have hl:ae fx.hp y.1 = some y.2:=by simpa using hl
    dsimp only
    rw[hl]
    exact sf _ hids
 ·refine St.ext' (fun k=>?_) (fun o=>?_)
  ·rw[gq]
   show (ae (kz T) k).getD .dead = _
   unfold kz
   rw[gr TSl.un,hT]
   unfold je
   dsimp only
   cases ae (zTm fx cur os ++ fx.tm) k <;> rfl
  ·rw[fO,iE]
   show ae (dN O) o = _
   unfold dN
   rw[gr cY.un,hO]
theorem Jn {op:Op} {k:TSt → Option ρ} (h:KX E fx op cur k = some r):∃ cur',k cur' = some r ∧ ∃ tms hps σ,Sub σ (un2 fx cur) tms hps ∧ kU tms hps = un2 fx cur':=by
 unfold KX at h
 split at h
 ·rename_i ps
  cases hnf:DC fx cur (ps.toList.map (·.2)) with
  | true =>
   rw[hnf,cond_true] at h
   obtain⟨hc,h⟩:=a7 h
   rw[Bool.and_eq_true,List.all_eq_true] at hc
   exact⟨_,h,AW hc.1 hc.2⟩
  | false =>
  rw[hnf,cond_false] at h
  split at h
  ·rename_i te _
   obtain⟨ns,os,h,hns⟩:=mG _ _ h
   obtain⟨hc,h⟩:=a7 h
   rw[Bool.and_eq_true,List.all_eq_true] at hc
   obtain⟨hfx,hcl⟩:=hc
   let T:=fk [] (xu cur ns os ++ fx.tm)
   let O:=fk [] (vj cur os ++ fx.hp)
   let σ:Ren:=⟨O.map fun x=>(x.1,x.1),none,true⟩
   have hT:∀ k,ae T k = ae (xu cur ns os ++ fx.tm) k:=fun k=>by
    show ae (fk [] _) k = _
    rw[fV,if_neg (by simp [cm])]
   have hO:∀ k,ae O k = ae (vj cur os ++ fx.hp) k:=fun k=>by
    show ae (fk [] _) k = _
    rw[fV,if_neg (by simp [cm])]
   have hnd:(aW O).Nodup:=mf _ _
   have hos:∀ o ∈ os,o ∉ aW O:=fun o ho hk=>by
    have h1:ae O o = none:=by
     rw[hO,bT]
     have:ae (vj cur os) o = none:=by
      unfold vj
      rw[eu (fun k=>!cm os k),(cP os o).2 ho]; rfl
     rw[this]
     have:=hfx o ho
     rw[look_eq] at this
     cases hl:ae fx.hp o with
     | none=>rfl
     | some v=>rw[hl] at this; cases this
    exact (gP _ _).1 h1 hk
   have hm1:σ.m.map (·.1) = aW O:=by show (O.map fun x=>(x.1,x.1)).map (·.1) = _; rw[List.map_map]; rfl
   have hm2:σ.m.map (·.2) = aW O:=by show (O.map fun x=>(x.1,x.1)).map (·.2) = _; rw[List.map_map]; rfl
   have hσ:σ.nodup:=⟨by rw[hm1]; exact hnd,by rw[hm2]; exact hnd⟩
   have hsame:∀ i ∈ aW O,nD σ (dN O) i:=fun i hi=>by
    obtain⟨y,hy,rfl⟩:=List.mem_map.1 hi
    exact⟨List.mem_map.2 ⟨y,hy,rfl⟩,jY hi⟩
   unfold gj at hcl
   simp only[Bool.and_eq_true,List.all_eq_true] at hcl
   refine⟨_,h,kz T,dN O,σ,⟨⟨hσ,rfl,rfl,iR fun x hx _=>?_⟩,iR fun q hq=>?_,iR fun q hq=>?_⟩,?_⟩
   ·obtain⟨y,_,rfl⟩:=List.mem_map.1 hx; rfl
   ·obtain⟨y,hy,rfl⟩:=List.mem_map.1 hq
    dsimp only
    rw[gq]
    have hl:=(iQ _ _ _ hy).2
    have hids:∀ i ∈ y.2.gw,nD σ (dN O) i:=fun i hi=>hsame i ((cP _ _).1 (hcl.1 y hy i hi))
    unfold xu at hl
    rw[bT,bT] at hl
    cases h1:ae ns y.1 with
    | some v =>
     rw[h1] at hl
     have:v = y.2:=by simpa using hl
     subst this
     exact hns σ (dN O) rfl (fun o ho=>by rw[hm1]; exact hos o ho) (y.1,y.2) (dg h1)
    | none =>
     rw[h1] at hl
     dsimp only at hl
     have e1:ae (cur.tm.map fun x=>(x.1,rY os x.2)) y.1 = (ae cur.tm y.1).map (rY os):=gr (rY os) cur.tm y.1
     rw[e1] at hl
     cases h2:ae cur.tm y.1 with
     | some v =>
      rw[h2] at hl
      have hv:rY os v = y.2:=by simpa using hl
      have ht:je fx cur y.1 = v:=by unfold je; rw[bT,h2]; rfl
      rw[ht,← hv]
      unfold rY at hv ⊢
      cases hb:v.gw.any (cm os) with
      | true=>rw[cond_true]; exact po _
      | false =>
       rw[hb,cond_false] at hv
       rw[cond_false]
       rw[← hv] at hids
       exact pq v hids
     | none =>
      rw[h2] at hl
      have hl:ae fx.tm y.1 = some y.2:=by simpa using hl
      have ht:je fx cur y.1 = y.2:=by unfold je; rw[bT,h2]; dsimp only; rw[hl]; rfl
      rw[ht]
      exact pq _ hids
   ·obtain⟨y,hy,rfl⟩:=List.mem_map.1 hq
    show HSub σ (un2 fx cur) (dN O) (y.1,y.2.un)
    unfold HSub
    have hk:y.1 ∈ aW O:=mem_keys hy
    rw[jX hσ (hsame _ hk).1]
    dsimp only
    have hl:=(iQ _ _ _ hy).2
    have hob:obT fx cur y.1 = some y.2:=by
     rw[iE,bT]
     rw[bT] at hl
     have e1:ae (vj cur os) y.1 = if !cm os y.1 then ae cur.hp y.1 else none:=eu (fun k=>!cm os k) cur.hp y.1
     rw[e1] at hl
     cases hb:cm os y.1 with
     | true=>exact absurd hk (hos _ ((cP _ _).1 hb))
     | false =>
      rw[hb] at hl
      simp only[Bool.not_false,if_true] at hl
      exact hl
    rw[fO,hob]
    exact sf _ fun i hi=>hsame i ((cP _ _).1 (hcl.2 y hy i hi))
   ·refine St.ext' (fun k=>?_) (fun o=>?_)
    ·rw[gq]
     show (ae (kz T) k).getD .dead = _
     unfold kz
     rw[gr TSl.un,hT]
     unfold je
     dsimp only
     cases ae (xu cur ns os ++ fx.tm) k <;> rfl
    ·rw[fO,iE]
     show ae (dN O) o = _
     unfold dN
     rw[gr cY.un,hO]
  ·cases h
 ·obtain⟨hc,h⟩:=a7 h
  rw[Bool.and_eq_true,List.all_eq_true] at hc
  exact⟨_,h,AW hc.1 hc.2⟩
 ·cases h
theorem Jo {P:Program} {o:Oper} {k:TSt → Option ρ} (hvs:Γ.vs = E.fz) {Q:St → Prop} (hk:∀ c,k c = some r → Q (un2 fx c)) (h:KY E fx o cur k = some r):qu Γ o (un2 fx cur) Q:=by
 unfold qu
 unfold KY at h
 have hv:inL Γ.vs o.dst = match o.dst with | some d=>cm E.fz d | none=>false:=by
  unfold inL
  rw[hvs]
  cases o.dst with
  | none=>rfl
  | some d =>
   dsimp only
   rw[Bool.eq_iff_iff,cP]
   simp
 rw[hv]
 split at h
 ·rename_i d hd
  cases hb:cm E.fz d with
  | true =>
   rw[hb,cond_true] at h
   rw[if_pos (by rw[hd]; exact hb)]
   obtain⟨c',h1,tms,hps,σ,h2,h3⟩:=Jn h
   exact .inr ⟨tms,hps,σ,h2,by rw[h3]; exact hk _ h1⟩
  | false =>
   rw[hb,cond_false] at h
   rw[if_neg (by rw[hd]; dsimp only; rw[hb]; simp)]
   exact hk _ h
 ·rename_i hd
  rw[if_neg (by rw[hd]; simp)]
  exact hk _ h
theorem Jp {o:Oper} {s:St} {Q:St → Prop} (h:Q s):qu Γ o s Q:=by
 unfold qu
 split
 ·exact .inl h
 ·exact h
theorem DU {P:Program} (hP:P = E.P) (hvs:Γ.vs = E.fz) (hΦ:∀ con ∈ E.Φ,ay E.P con) (hΓ:Γ.hs = E.hs ∧ Γ.fz = E.zs ∧ Γ.mv = E.ns ∧ Γ.bx = E.bs) {ops:List Oper} {K:TSt → Option ρ} {Q:St → Prop} (hQ:∀ c,K c = some r → Q (un2 fx c)):∀ (l:List Oper) (cur:TSt),wL E fx ops l cur K = some r → nf P Γ ops l (un2 fx cur) Q
 | [],cur,h=>hQ cur h
 | o :: rest,cur,h=>by
  subst hP
  have ih:=DU (ops:=ops) rfl hvs hΦ hΓ hQ rest
  have run:∀ cur:TSt,(opT E fx o.op o.dst cur fun x wr=>eE (pB cur o.dst x wr).tm fun tm=>wL E fx ops rest ⟨tm,(pB cur o.dst x wr).hp⟩ K) = some r → nR E.P Γ (un2 fx cur) o fun e=>nf E.P Γ ops rest ((un2 fx cur).app o.dst e) Q:=by
   intro cur h
   obtain⟨x,wr,h1,h2⟩:=Lb hΦ hΓ h
   dsimp only at h1
   rw[dY] at h1
   have h3:=ih _ h1
   exact pS (fun e he=>by rw[he]; exact h3) h2
  unfold nf
  unfold wL at h
  split at h
  ·rename_i hg
   refine Jo (P:=E.P) hvs (fun c hc=>?_) h
   rw[hg]
   exact run c hc
  ·rename_i g b hg
   refine Jp ?_
   rw[hg]
   dsimp only
   split at h
   ·rename_i d c hgt
    obtain⟨c,rfl⟩:∃ q:Bool,q = c:=⟨c,rfl⟩
    obtain⟨g1,g2⟩:=xF hgt
    rw[g1]
    show (c = b → _) ∧ (c = !b → _)
    have hk:=Hj g2
    cases c with
    | true =>
     rw[cond_true] at h
     cases b with
     | true =>
      rw[cond_true] at h
      refine⟨fun _=>?_,(fun h=>nomatch h)⟩
      have:=run ⟨pA cur.tm d (tV .bool true),cur.hp⟩ h
      rw[hk] at this
      exact this
     | false =>
      rw[cond_false] at h
      refine⟨(fun h=>nomatch h),fun _=>?_⟩
      have:=ih _ h
      rw[← yW,hk] at this
      exact this
    | false =>
     rw[cond_false] at h
     cases b with
     | true =>
      rw[cond_true] at h
      refine⟨(fun h=>nomatch h),fun _=>?_⟩
      have:=ih _ h
      rw[← yW,hk] at this
      exact this
     | false =>
      rw[cond_false] at h
      refine⟨fun _=>?_,(fun h=>nomatch h)⟩
      have:=run ⟨pA cur.tm d (tV .bool false),cur.hp⟩ h
      rw[hk] at this
      exact this
   ·rename_i d l hgt
    obtain⟨g1,g2⟩:=xF hgt
    rw[g1]
    show nf E.P Γ ops rest ((un2 fx cur).app o.dst nP) Q
    rw[yW]
    exact ih _ h
   ·cases h
end
end Go.Lad
