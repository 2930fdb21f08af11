import Derived.Test.YtkpefpjpadahiaaGreatDoorD9
namespace Go.Lad
set_option linter.unusedVariables false
set_option linter.unusedSimpArgs false
open Go.RowKit
section
variable {ρ:Type} {E:Env} {Γ:Opt} {fx cur:TSt} {r:ρ}
def Stepped (P:Program) (Γ:Opt) (fx cur:TSt) (o:Oper) (k:KE ρ) (r:ρ):Prop :=
 ∃ x wr,k x wr=some r/\oP P Γ (un2 fx cur) o fun e=>(un2 fx cur).app o.dst e=un2 fx (qq cur o.dst x wr)
theorem cN {P:Program} {o:Oper} {op':Option Eff} {k:KE ρ} (hno:pf Γ (un2 fx cur) o) (hd:Did op' k r) (hx:opX P Γ (un2 fx cur) o=op') (hnc:∀ c f,o.op = .call c->c.callee ≠ .value f):Stepped P Γ fx cur o k r:=by
 obtain⟨x,wr,c,h1,h2,h3⟩:=hd;refine⟨x,wr,h1,?_⟩;unfold oP;split
 ·rename_i f a t heq;exact absurd rfl (hnc _ f heq)
 ·rw[hx,h2];exact⟨h3,hno,Dx o.dst x wr c⟩
theorem qU {P:Program} {o:Oper} {a b:Option Eff} {k:KE ρ} (hno:pf Γ (un2 fx cur) o) (hd:Did a k r) (hx:opX P Γ (un2 fx cur) o=orE a b) (hnc:∀ c f,o.op = .call c->c.callee ≠ .value f):Stepped P Γ fx cur o k r:=by
 refine cN hno hd ?_ hnc;obtain⟨x,wr,c,h1,h2,h3⟩:=hd;rw[hx,h2]; rfl
theorem zq {P:Program} {o:Oper} {a b:Option Eff} {k:KE ρ} (hno:pf Γ (un2 fx cur) o) (hd:Did b k r) (ha:a=none) (hx:opX P Γ (un2 fx cur) o=orE a b) (hnc:∀ c f,o.op = .call c->c.callee ≠ .value f):Stepped P Γ fx cur o k r:=by
 refine cN hno hd ?_ hnc;rw[hx,ha]; rfl
theorem EM:(un2 fx cur).arg=fun x=>dv fx cur (evT fx cur cJ x):=by
 funext x
 unfold St.arg dv;rw[fF]
theorem rR {α:Type} {a:Array α} {l:List α} (h:a.toList=l):a=l.toArray:=by cases a; simp_all
theorem Bt {Φ:List Con} {sel:List (Nat×Nat)} {f:FuncId} {d:Nat} {con:Con} (h:Ev Φ sel f d=some con):con∈Φ/\con.f=f:=by
 unfold Ev at h;split at h
 ·split at h
  ·rename_i c hc;cases hb:Nat.beq c.f f with
   | true =>
    rw[hb] at h;simp only[cond_true,Option.some.injEq] at h;subst h;rw[eU,decide_eq_true_eq] at hb;exact⟨List.mem_of_getElem? hc,hb⟩
   | false=>rw[hb] at h; cases h
  ·cases h
 ·have h1:=List.mem_of_find?_eq_some h;have h2:=List.find?_some h;rw[eU,decide_eq_true_eq] at h2;exact⟨h1,h2⟩
set_option maxHeartbeats 1000000 in
theorem EN (c:TC):c.un.ids=c.leaves.flatMap TL.ik:=by
 have hl:∀ x:TL,x.un.ids=x.ik:=fun x=>by
  cases x with
  | v t x =>
   show (aJ.ids (match enc t x with | [p]=>.p p | _=>.dead))=[];split <;> rfl
  | _=>rfl
 unfold Cmp.ids;rw[kx];induction c.leaves with
 | nil=>rfl
 | cons x l ih=>rw[List.map_cons,List.flatMap_cons,List.flatMap_cons,ih,hl]
theorem zr (x:TSl):x.un.ids=x.ik:=by
 cases x with
 | dead=>rfl
 | c x=>exact EN x
 | t l =>
  show (l.map TC.un).flatMap Cmp.ids=l.flatMap fun c=>c.leaves.flatMap TL.ik;induction l with
  | nil=>rfl
  | cons x l ih=>rw[List.map_cons,List.flatMap_cons,List.flatMap_cons,ih,EN]
theorem uz {o:Oper} {k:KE ρ} (hΦ:∀ con∈E.Φ,au E.P con) (hΓ:Γ.hs=E.hs/\Γ.fz=E.zs/\Γ.mv=E.ns/\Γ.bx=E.bs) (hno:pf Γ (un2 fx cur) o) (h:mV E fx o.op o.dst cur k=some r):Stepped E.P Γ fx cur o k r:=by
 obtain⟨dst,op,type,pos,after,g⟩:=o;have hin:inL Γ.fz dst=rE E dst:=by
  unfold inL rE;rw[hΓ.2.1];cases dst with
  | none=>rfl
  | some d =>
   dsimp only;rw[Bool.eq_iff_iff,cG];simp
 cases op with
 | move x=>exact cN hno (Ex h) (by unfold opX opE opY; simp [ko,cW,dO,gQ,opV,Op.bL,fw,fk,Function.comp_def,St.arg,fF]) (by simp)
 | assign x=>exact cN hno (Ex h) (by unfold opX opE opY; simp [ko,cW,dO,gQ,opV,Op.bL,fw,fk,Function.comp_def,St.arg,fF]) (by simp)
 | pick c x y=>exact cN hno (K8 h) (by unfold opX opE opY; simp [ko,cW,dO,gQ,opV,Op.bL,fw,fk,Function.comp_def,St.arg,fF]) (by simp)
 | alloc t =>
  unfold mV at h;dsimp only at h;split at h
  ·rename_i hz;exact nomatch h
  ·rename_i hz;exact cN hno (IM h) (by rw[jc (by dsimp only; rw[hin,hz]; rfl)]; unfold opE opY; simp [gQ,Op.bL,fw,fk]) (by simp)
 | load t x=>exact cN hno (ux h) (by unfold opX opE opY; simp [ko,cW,dO,gQ,opV,Op.bL,fw,fk,Function.comp_def,St.arg,fF,dv]) (by simp)
 | store t x v=>exact cN hno (IP h) (by unfold opX opE opY; simp [ko,cW,dO,gQ,opV,Op.bL,fw,fk,Function.comp_def,St.arg,fF,dv]) (by simp)
 | nilCheck x=>exact cN hno (NV h) (by unfold opX opE opY; simp [ko,cW,dO,gQ,opV,Op.bL,fw,fk,Function.comp_def,St.arg,fF]) (by simp)
 | fieldAddr t x f=>exact cN hno (zh h) (by unfold opX opE opY; simp [ko,cW,dO,gQ,opV,Op.bL,fw,fk,Function.comp_def,St.arg,fF]) (by simp)
 | field t x f=>exact cN hno (IQ h) (by unfold opX opE opY; simp [ko,cW,dO,gQ,opV,Op.bL,fw,fk,Function.comp_def,St.arg,fF]) (by simp)
 | indexAddr t x i =>
  have hX:opX E.P Γ (un2 fx cur) ⟨dst,.indexAddr t x i,type,pos,after,g⟩=orE (eN E.P t [dv fx cur (evT fx cur cJ x),dv fx cur (evT fx cur cJ i)]) (yQ E.P t [dv fx cur (evT fx cur cJ x),dv fx cur (evT fx cur cJ i)]):=by
   unfold opX opE opY; simp [ko,cW,dO,opV,Op.bL,St.arg,fF,dv]
  have h:NI E.P fx cur t (evT fx cur cJ x) (evT fx cur cJ i) k=some r:=h;unfold NI at h;split at h
  ·rename_i m e hu;refine zq hno (Le hu h) ?_ hX (by simp);have hne:dy E.P t=none:=by unfold dy; rw[hu]
   unfold eN;split <;> first | rfl | rw[hne]
  ·exact qU hno (zi h) hX (by simp)
 | index t x i=>exact cN hno (IS h) (by unfold opX opE opY; simp [ko,cW,dO,gQ,opV,Op.bL,fw,fk,Function.comp_def,St.arg,fF]) (by simp)
 | binOp b t x y t' =>
  unfold mV at h;dsimp only at h;split at h
  ·rename_i hz;split at h
   ·rename_i hb;obtain⟨_,h⟩:=Li h;refine cN hno h ?_ (by simp);have ht:dO (.binOp b t x y t')=true:=by cases b <;> first | rfl | cases hb
    rw[vn (by dsimp only; rw[hin,hz]; exact ht)];simp [yS,Op.bL,St.arg,fF,dv]
   ·obtain⟨rfl,x',wr,c,h1,h2,h3⟩:=K7 h;refine cN (op':=some ⟨c,x'.un,dY wr⟩) hno ⟨x',wr,c,h1,rfl,h3⟩ ?_ (by simp);rw[vm (by dsimp only; rw[hin,hz]; rfl)];show sI _=_;rw[← h2];simp [Op.bL,fF]
  ·rename_i hz;have hX:opX E.P Γ (un2 fx cur) ⟨dst,.binOp b t x y t',type,pos,after,g⟩=orE (kY E.P b t [(evT fx cur cJ x).un,(evT fx cur cJ y).un]) (xb E.P b t (isC y) [(evT fx cur cJ x).un,(evT fx cur cJ y).un]):=by
    rw[jc (by dsimp only; rw[hin,hz]; rfl)];unfold opE opY; simp [gQ,opV,Op.bL,Function.comp_def,St.arg,fF]
   split at h
   ·rename_i xs ys hx hy;obtain⟨y',wr,c,h1,h2,h3⟩:=NZ h;refine cN (op':=some ⟨c,y'.un,dY wr⟩) hno ⟨y',wr,c,h1,rfl,h3⟩ ?_ (by simp);rw[hX,hx,hy];have h4:xb E.P b t (isC y) [TSl.un (.c (.g xs)),TSl.un (.c (.g ys))]=some ⟨c,y'.un,dY wr⟩:=by unfold xb; rw[h2]
    rw[h4];rfl
   ·rename_i hx hy;obtain⟨y',wr,c,h1,h2,h3⟩:=O2 h;refine cN (op':=some ⟨c,y'.un,dY wr⟩) hno ⟨y',wr,c,h1,rfl,h3⟩ ?_ (by simp);rw[hX,hx,hy];have h4:xb E.P b t (isC y) [TSl.un (.c (.v (.oth .nilIface))),TSl.un (.c (.v (.oth .nilIface)))]=some ⟨c,y'.un,dY wr⟩:=by
     unfold xb;rw[show oN E.P b t [TSl.un (.c (.v (.oth .nilIface))),TSl.un (.c (.v (.oth .nilIface)))]=none from rfl,show CJ b [TSl.un (.c (.v (.oth .nilIface))),TSl.un (.c (.v (.oth .nilIface)))]=none from rfl];exact h2
    rw[h4];rfl
   ·split at h
    ·obtain⟨h5,h6,h7⟩:=O1 (P:=E.P) (t:=t) h;obtain⟨y',wr,c,h1,h2,h3⟩:=h7;refine cN (op':=some ⟨c,y'.un,dY wr⟩) hno ⟨y',wr,c,h1,rfl,h3⟩ ?_ (by simp);rw[hX,h5];show xb E.P b t _ _=_;unfold xb;rw[h6,h2]
    ·obtain⟨y',wr,c,h1,h2,h3⟩:=NY h;refine cN (op':=some ⟨c,y'.un,dY wr⟩) hno ⟨y',wr,c,h1,rfl,h3⟩ ?_ (by simp);rw[hX,h2]; rfl
 | unOp b t x=>exact cN hno (O3 h) (by unfold opX opE opY; simp [ko,cW,dO,gQ,opV,Op.bL,fw,fk,Function.comp_def,St.arg,fF]) (by simp)
 | extract x i=>exact cN hno (Dq h) (by unfold opX opE opY; simp [ko,cW,dO,gQ,opV,Op.bL,fw,fk,Function.comp_def,St.arg,fF]) (by simp)
 | build t ps=>exact cN hno (wg h) (by unfold opX opE opY; simp [ko,cW,dO,gQ,opV,Op.bL,fw,fk,Function.comp_def,St.arg,fF]) (by simp)
 | buildSlice t n ps =>
  unfold mV at h;dsimp only at h;split at h
  ·rename_i d';cases hz:cr E.zs d' with
   | true =>
    rw[hz,cond_true] at h;obtain⟨x,wr,c,h1,h2,h3⟩:=Gf h;refine cN (op':=some ⟨c,x.un,dY wr⟩) hno ⟨x,wr,c,h1,rfl,h3⟩ ?_ (by simp);have hf:(inL Γ.fz (some d') && cW (.buildSlice t n ps))=true:=by
     rw[hΓ.2.1];show (E.zs.contains d' && true)=true;rw[Bool.and_true,List.contains_iff_mem]; exact (cG _ _).1 hz
    rw[vm hf];have hmv:inL Γ.mv (some d')=cr E.ns d':=by
     show Γ.mv.contains d'=_;rw[hΓ.2.2.1,Bool.eq_iff_iff,cG,List.contains_iff_mem]
    have e1:List.map (un2 fx cur).ev (Op.bL (.buildSlice t n ps))=(ps.toList.map fun p=>evT fx cur cJ p.2).map TSl.un:=by
     simp [Op.bL,Function.comp_def,fF]
    dsimp only;rw[e1,hmv];exact h2
   | false =>
    rw[hz,cond_false] at h;have hnz:(inL Γ.fz (some d') && cW (.buildSlice t n ps))=false:=by
     rw[hΓ.2.1];show (E.zs.contains d' && true)=false;rw[Bool.and_true,Bool.eq_false_iff];intro hc;rw[List.contains_iff_mem] at hc;rw[(cG _ _).2 hc] at hz; cases hz
    have hX:opX E.P Γ (un2 fx cur) ⟨some d',.buildSlice t n ps,type,pos,after,g⟩=orE (dG E.P t n (ps.toList.map (·.1)) (some d') (aY (un2 fx cur).hp (some d')) ((ps.toList.map fun p=>evT fx cur cJ p.2).map (dv fx cur))) (fp E.P t n (ps.toList.map (·.1)) (some d') (aY (un2 fx cur).hp (some d')) ((ps.toList.map fun p=>evT fx cur cJ p.2).map TSl.un)):=by
     rw[jc hnz];unfold opE opY; simp [opV,Op.bL,Function.comp_def,St.arg,fF,dv]
    rcases Dr h with⟨h1,h2⟩ | h2
    ·rw[h1] at hX;exact cN hno h2 hX (by simp)
    ·exact qU hno h2 hX (by simp)
  ·cases h
 | convert s t x =>
  unfold mV at h;dsimp only at h;split at h
  ·rename_i hz;exact nomatch h
  ·rename_i hz;exact cN hno (La h) (by rw[jc (by dsimp only; rw[hin,hz]; rfl)]; unfold opE opY; simp [gQ,opV,Op.bL,fw,fk,Function.comp_def,St.arg,fF,dv]) (by simp)
 | mapEntry t m x=>exact nomatch h
 | entryStore t m st v=>exact nomatch h
 | slice t x l hh m =>
  cases m with
  | none =>
   cases hz:rE E dst with
   | true =>
    have h':Es E.P fx cur t l.isSome hh.isSome dst (evT fx cur cJ x) ((l.toList++hh.toList).map (evT fx cur cJ)) k=some r:=by
     unfold mV at h;cases l <;> cases hh <;> (dsimp only at h; rw[hz] at h; exact h)
    exact cN hno (Lj h') (by rw[vn (by dsimp only; rw[hin,hz]; rfl)]; simp [yS,Op.bL,Function.comp_def,EM]) (by simp)
   | false =>
    have h':ze E.P fx cur t l.isSome hh.isSome (evT fx cur cJ x) ((l.toList++hh.toList).map (evT fx cur cJ)) k=some r:=by
     unfold mV at h;cases l <;> cases hh <;> (dsimp only at h; rw[hz] at h; exact h)
    exact cN hno (IU h') (by rw[jc (by dsimp only; rw[hin,hz]; rfl)]; unfold opE opY; simp [gQ,Op.bL,fw,fk,Function.comp_def,EM]) (by simp)
  | some m =>
   cases l with
   | some l=>cases hh <;> cases h
   | none =>
    cases hh with
    | none=>cases h
    | some hh=>exact cN hno (N0 h) (by unfold opX opE opY; simp [ko,cW,dO,gQ,opV,Op.bL,fw,fk,Function.comp_def,St.arg,fF]) (by simp)
 | box t x=>exact cN hno (N2 h) (by unfold opX opE opY; simp [ko,cW,dO,gQ,opV,Op.bL,fw,fk,Function.comp_def,St.arg,fF]) (by simp)
 | makeMap t rs =>
  cases rs with
  | none =>
   unfold mV at h;dsimp only at h;split at h
   ·rename_i hz;exact nomatch h
   ·rename_i hz;exact cN hno (Du h) (by rw[jc (by dsimp only; rw[hin,hz]; rfl)]; unfold opE opY; simp [gQ,Op.bL,fw,fk]) (by simp)
  | some m=>cases h
 | lookup t m x ok =>
  have hL:(inL Γ.fz dst && dO (.lookup t m x ok))=false->Ix E.P fx cur E.H t ok (evT fx cur cJ m) (evT fx cur cJ x) k=some r->Stepped E.P Γ fx cur ⟨dst,.lookup t m x ok,type,pos,after,g⟩ k r:=fun hnt h=>by
   have hX:opX E.P Γ (un2 fx cur) ⟨dst,.lookup t m x ok,type,pos,after,g⟩=orE (gN E.P t ok [dv fx cur (evT fx cur cJ m),dv fx cur (evT fx cur cJ x)]) (match ok with | false=>uo E.P t [(evT fx cur cJ m).un,(evT fx cur cJ x).un] | true=>none):=by
    rw[jc (by
     dsimp only;unfold ko;rw[show cW (.lookup t m x ok)=false from rfl,Bool.false_or]; exact hnt)]
    unfold opE opY; cases ok <;> simp [opV,Op.bL,St.arg,fF,dv]
   unfold Ix at h;split at h
   ·rename_i heq;exact qU hno (IV heq h) hX (by simp)
   ·rename_i kd e m' heq;cases ok with
    | true=>cases h
    | false =>
     have h:Dg E.P t (evT fx cur cJ m) (evT fx cur cJ x) k=some r:=h;refine zq hno (IW h) ?_ hX (by simp);rw[heq];rfl
   ·exact qU hno (Gi h) hX (by simp)
  unfold mV at h;cases ok with
  | true=>exact hL (by simp [dO]) h
  | false =>
   cases hz:rE E dst with
   | true =>
    dsimp only at h;rw[hz] at h;exact nomatch h
   | false =>
    dsimp only at h;rw[hz] at h;exact hL (by rw[hin,hz]; rfl) h
 | mapUpdate t m x v =>
  have hX:opX E.P Γ (un2 fx cur) ⟨dst,.mapUpdate t m x v,type,pos,after,g⟩=orE (fQ E.P t [dv fx cur (evT fx cur cJ m),dv fx cur (evT fx cur cJ x),dv fx cur (evT fx cur cJ v)]) (yR E.P t [dv fx cur (evT fx cur cJ m),dv fx cur (evT fx cur cJ x),dv fx cur (evT fx cur cJ v)]):=by
   unfold opX opE opY; simp [ko,cW,dO,opV,Op.bL,St.arg,fF,dv]
  have h:NJ E.P fx cur t (evT fx cur cJ m) (evT fx cur cJ x) (evT fx cur cJ v) k=some r:=h;unfold NJ at h;split at h
  ·rename_i o heq;split at h
   ·rename_i kd e te mm hh ho;rw[heq] at hX;refine zq hno (Lf h) ?_ hX (by simp);show fQ E.P t [(.c (.v (.mp o)),[(un2 fx cur).hp o]),_,_]=none;rw[dA ho];rfl
   ·exact qU hno (rK h) hX (by simp)
  ·exact qU hno (rK h) hX (by simp)
 | makeSlice t x y=>exact nomatch h
 | makeFunc fn first caps =>
  cases fn with
  | func f =>
   unfold mV at h;dsimp only at h;exact cN hno (Be h) (by unfold opX opE opY; simp [ko,cW,dO,gQ,opV,Op.bL,fw,fk,Function.comp_def,St.arg,fF]) (by simp)
  | _=>cases h
 | call c =>
  obtain⟨callee,args,ts⟩:=c;cases callee with
  | builtin b =>
   cases b with
   | len =>
    unfold mV at h;dsimp only at h;split at h
    ·rename_i x t h1 h2;have h1:=rR h1;have h2:=rR h2;subst h1 h2;exact cN hno (N1 h) (by unfold opX opE opY; simp [ko,cW,dO,gQ,opV,Op.bL,fw,fk,Function.comp_def,St.arg,fF,dv]) (fun c f hc=>by cases hc; simp)
    ·cases h
   | append =>
    unfold mV at h;dsimp only at h;split at h
    ·rename_i x y t t' h1 h2;have h1:=rR h1;have h2:=rR h2;cases hb:Nat.beq t t' with
     | false =>
      rw[hb,cond_false] at h;have hne:¬ t=t':=fun e=>by
       rw[eU,decide_eq_false_iff_not] at hb;exact hb e
      subst h1 h2;cases hz:rE E dst with
      | true=>rw[hz] at h; cases h
      | false =>
      rw[hz] at h;exact cN hno (Ld h) (by rw[jc (by dsimp only; rw[hin,hz]; rfl)]; unfold opE opY; simp [opV,Op.bL,fk,St.arg,fF,dv,hne]) (fun c f hc=>by cases hc; simp)
     | true =>
     rw[hb,cond_true] at h;have ht:=hb;rw[eU,decide_eq_true_eq] at ht;subst h1 h2 ht;cases hz:rE E dst with
     | true =>
      rw[hz] at h;exact cN hno (Lg h) (by rw[vn (by dsimp only; rw[hin,hz]; rfl)]; simp [yS,Op.bL,St.arg,fF,dv]) (fun c f hc=>by cases hc; simp)
     | false =>
     rw[hz] at h;have h7:xT E.P E.H fx cur t dst (evT fx cur cJ x) (evT fx cur cJ y) k=some r:=h;have hX:opX E.P Γ (un2 fx cur) ⟨dst,.call ⟨.builtin .append,[x,y].toArray,[t,t].toArray⟩,type,pos,after,g⟩=orE (gM E.P t dst (aY (un2 fx cur).hp dst) [dv fx cur (evT fx cur cJ x),dv fx cur (evT fx cur cJ y)]) (lR E.P t dst (aY (un2 fx cur).hp dst) [dv fx cur (evT fx cur cJ x),dv fx cur (evT fx cur cJ y)]):=by
      rw[jc (by dsimp only; rw[hin,hz]; rfl)]; unfold opE opY; simp [opV,Op.bL,St.arg,fF,dv]
     rcases Dv h7 with⟨t',l,hx⟩ | h8
     ·rw[hx] at h7 hX;exact zq hno (Lh h7) (by rfl) hX (fun c f hc=>by cases hc; simp)
     ·exact qU hno (Gg h8) hX (fun c f hc=>by cases hc; simp)
    ·cases h
   | cap =>
    unfold mV at h;dsimp only at h;split at h
    ·rename_i x t h1 h2;have h1:=rR h1;have h2:=rR h2;subst h1 h2;exact nomatch h
    ·cases h
   | copy =>
    unfold mV at h;dsimp only at h;split at h
    ·rename_i x y t u h1 h2;have h1:=rR h1;have h2:=rR h2;subst h1 h2;exact nomatch h
    ·cases h
   | clear =>
    unfold mV at h;dsimp only at h;split at h
    ·rename_i x t h1 h2;have h1:=rR h1;have h2:=rR h2;subst h1 h2;exact cN hno (IX h) (by unfold opX opE opY; simp [ko,cW,dO,opV,Op.bL,fk,St.arg,fF,dv]) (fun c f hc=>by cases hc; simp)
    ·cases h
   | min =>
    unfold mV at h;dsimp only at h;split at h
    ·rename_i x y h1;have h1:=rR h1;subst h1;exact cN hno (xY h) (by unfold opX opE opY; simp [ko,cW,dO,gQ,opV,Op.bL,fw,fk,Function.comp_def,St.arg,fF]) (fun c f hc=>by cases hc; simp)
    ·rename_i x y z h1;have h1:=rR h1;subst h1;exact cN hno (wi h) (by unfold opX opE opY; simp [ko,cW,dO,gQ,opV,Op.bL,fw,fk,Function.comp_def,St.arg,fF]) (fun c f hc=>by cases hc; simp)
    ·cases h
   | max =>
    unfold mV at h;dsimp only at h;split at h
    ·rename_i x y h1;have h1:=rR h1;subst h1;exact cN hno (xY h) (by unfold opX opE opY; simp [ko,cW,dO,gQ,opV,Op.bL,fw,fk,Function.comp_def,St.arg,fF]) (fun c f hc=>by cases hc; simp)
    ·rename_i x y z h1;have h1:=rR h1;subst h1;exact cN hno (wi h) (by unfold opX opE opY; simp [ko,cW,dO,gQ,opV,Op.bL,fw,fk,Function.comp_def,St.arg,fF]) (fun c f hc=>by cases hc; simp)
    ·cases h
   | _=>cases h
  | value f =>
   unfold mV at h;dsimp only at h;split at h
   ·rename_i fid caps d hev;have key:∀ con,con∈E.Φ->con.f=fid / 2->A4 E fx cur ⟨.value f,args,ts⟩ caps fid d con k=some r->Stepped E.P Γ fx cur ⟨some d,.call ⟨.value f,args,ts⟩,type,pos,after,g⟩ k r:=by
     intro con hm hf h;unfold A4 at h;obtain⟨hc,h⟩:=aG h;have hfo:(un2 fx cur).ev f = .c (.v (.fn fid caps)):=by rw[fF,hev]; rfl
     have hargs:ga (un2 fx cur) ⟨.value f,args,ts⟩ fid caps=(cond (Nat.beq (fid % 2) 0) (args.toList.map (evT fx cur cJ)++caps.map fun o=>tL (.loc o 0)) ((caps.map fun o=>tL (.loc o 0))++args.toList.map (evT fx cur cJ))).map TSl.un:=by
      have e1:args.toList.map (un2 fx cur).ev=(args.toList.map (evT fx cur cJ)).map TSl.un:=by
       rw[List.map_map];exact List.map_congr_left fun x _=>fF fx cur x
      have e2:(caps.map fun o=>Slot.c (.v (.loc o 0)))=(caps.map fun o=>tL (.loc o 0)).map TSl.un:=by rw[List.map_map]; rfl
      unfold ga;dsimp only;by_cases h2:fid % 2=0
      ·rw[if_pos h2,show Nat.beq (fid % 2) 0=true by rw[eU]; simp [h2],cond_true,List.map_append,e1,e2]
      ·rw[if_neg h2,show Nat.beq (fid % 2) 0=false by rw[eU]; simp [h2],cond_false,List.map_append,e1,e2]
     obtain⟨y,wr,h1,e,h2,h3,h4⟩:=I0 (Γ:=Γ) (o:=⟨some d,.call ⟨.value f,args,ts⟩,type,pos,after,g⟩) (hΦ con hm) rfl rfl rfl hfo hf.symm hargs (fun hp=>by
      unfold mB at hp;dsimp only at hp;rw[hΓ.1] at hp;rw[Bool.and_eq_true,Bool.and_eq_true] at hc;have hc:=hc.1.2;split at hc
      ·rename_i k1 k2;rw[Bool.or_eq_true] at hc;rcases hc with hc | hc
       ·exact⟨k1,k2,hc⟩
       ·rw[cG] at hc;rw[Bool.not_eq_true',List.contains_eq_mem,decide_eq_false_iff_not] at hp;exact absurd hc hp
      ·rw[cG] at hc;rw[Bool.not_eq_true',List.contains_eq_mem,decide_eq_false_iff_not] at hp;exact absurd hc hp) (fun hp x hx i hi=>by
      unfold mB at hp;dsimp only at hp;rw[hΓ.1] at hp;rw[Bool.and_eq_true,Bool.and_eq_true,Bool.or_eq_true] at hc;rcases hc.1.1 with hl | hl
      ·rw[cG] at hl;rw[Bool.not_eq_true',List.contains_eq_mem,decide_eq_false_iff_not] at hp;exact absurd hl hp
      ·unfold IH at hl;rw[zr] at hi;have h1:=List.all_eq_true.1 (List.all_eq_true.1 hl x hx) i hi;rw[gR];cases ho:obT fx cur i with
       | none=>rw[ho] at h1; cases h1
       | some v =>
        rw[ho] at h1;refine⟨by simp,fun e cs he=>?_⟩;cases v with
        | lit e cs=>cases h1
        | _=>simp [cV.un] at he) (fun hp=>by
      unfold nW at hp;dsimp only at hp;rw[hΓ.1,List.contains_iff_mem] at hp;rw[Bool.and_eq_true] at hc;have hc:=hc.2;split at hc
      ·rename_i k1; exact k1
      ·rw[(cG _ _).2 hp] at hc; cases hc) (fun y wr hk x hx=>by
      obtain⟨hs,_⟩:=aG hk;cases hq:lB Γ ⟨some d,.call ⟨.value f,args,ts⟩,type,pos,after,g⟩ x.1 with
      | false=>rfl
      | true =>
       unfold lB at hq;dsimp only at hq;rw[hΓ.1,List.contains_iff_mem] at hq;have h1:=List.all_eq_true.1 hs _ hq;rw[Bool.or_eq_true] at h1;rcases h1 with h1 | h1
       ·rw[Nat.ble_eq] at h1; omega
       ·have:=List.all_eq_true.1 h1 x hx;rw[Nat.beq_refl] at this; cases this) h
     exact⟨y,wr,(aG h1).2,e,h2,h3,h4⟩
    split at h
    ·rename_i con hcon;obtain⟨hm,hf⟩:=Bt hcon;split at h
     ·exact key con hm hf h
     ·split at h
      ·rename_i con2 hcon2;obtain⟨hm2,hf2⟩:=Bt hcon2;unfold orT at h;split at h
       ·rename_i r' hr;injection h with h
        subst h;exact key con hm hf hr
       ·exact key con2 hm2 hf2 h
      ·cases h
    ·cases h
   ·cases h
  | invoke _ _=>cases h
 | _=>cases h
theorem zt {l:List Nat} {d:Nat}:inL l (some d)=cr l d:=by
 rw[Bool.eq_iff_iff,cG];show l.contains d=true↔_;rw[List.contains_iff_mem]
theorem N4 {o:Oper} {k:KE ρ} (hΦ:∀ con∈E.Φ,au E.P con) (hΓ:Γ.hs=E.hs/\Γ.fz=E.zs/\Γ.mv=E.ns/\Γ.bx=E.bs) (h:opT E fx o.op o.dst cur k=some r):Stepped E.P Γ fx cur o k r:=by
 unfold opT at h;obtain⟨hbt,h⟩:=aG h;have hbt:Nj Γ (un2 fx cur) o:=fun k hk t ht i hi=>by
  unfold MV at hbt;rw[hk] at hbt;rw[hΓ.2.2.2] at ht;obtain⟨e,he,h1⟩:=List.any_eq_true.1 ht;rw[Bool.and_eq_true] at h1;have h2:=List.all_eq_true.1 hbt e he;rw[h1.1,cond_true] at h2;rw[fF,zr] at hi;have h3:=List.all_eq_true.1 h2 i hi;have e2:=Nat.eq_of_beq_eq_true h1.2;cases hb:Nat.ble 500000 (e % 1000000) with
  | true =>
   rw[hb,cond_true] at h3;have e1:=Nat.eq_of_beq_eq_true h3;exact .inr (e1.trans e2)
  | false =>
   rw[hb,cond_false] at h3;have hlt:e % 1000000<500000:=by
    rw[← Bool.not_eq_true,Nat.ble_eq] at hb; omega
   split at h3
   ·rename_i t' cs ho;have e1:=Nat.eq_of_beq_eq_true h3;refine .inl ⟨by omega,?_⟩;rw[← e2,← e1];exact⟨_,dA ho⟩
   ·cases h3
 unfold OY at h;cases hd:o.dst with
 | none =>
  rw[hd] at h;exact uz hΦ hΓ ⟨fun hc=>(by rw[hd] at hc; cases hc),fun _ hc=>(by rw[hd] at hc; cases hc),hbt⟩ (by rw[hd]; exact h)
 | some d =>
  rw[hd] at h;dsimp only at h;cases hn:cr E.ns d with
  | true =>
   rw[hn,cond_true] at h;obtain⟨hi,h⟩:=aG h;refine uz hΦ hΓ ⟨fun _ x hx=>?_,fun hc=>?_,hbt⟩ (by rw[hd]; exact h)
   ·have:=List.all_eq_true.1 hi x hx;rw[fF,zr];split at this
    ·assumption
    ·cases this
   ·rw[hd,hΓ.2.2.1,zt,hn] at hc; cases hc
  | false =>
   rw[hn,cond_false] at h;have h1:inL Γ.mv o.dst=true->False:=fun hc=>by rw[hd,hΓ.2.2.1,zt,hn] at hc; cases hc
   cases hb:cr E.bs d with
   | true =>
    rw[hb,cond_true] at h;obtain⟨hi,h⟩:=aG h;refine uz hΦ hΓ ⟨fun hc=>(h1 hc).elim,fun _ _ x hx i hxi=>?_,hbt⟩ (by rw[hd]; exact h);rw[fF,zr] at hxi;cases hsl:vl o.op with
    | true =>
     rw[if_pos rfl];rw[hsl,cond_true] at hi;have:=List.all_eq_true.1 (List.all_eq_true.1 hi x hx) i hxi;split at this
     ·rename_i t cs l ho; exact⟨_,_,_,dA ho⟩
     ·cases this
    | false =>
     rw[if_neg (by simp)];rw[hsl,cond_false] at hi;have:=List.all_eq_true.1 (List.all_eq_true.1 hi x hx) i hxi;split at this
     ·rename_i t cs ho; exact⟨_,_,dA ho⟩
     ·cases this
   | false =>
    rw[hb,cond_false] at h;refine uz hΦ hΓ ⟨fun hc=>(h1 hc).elim,fun _ hc=>?_,hbt⟩ (by rw[hd]; exact h);rw[hd,hΓ.2.2.2,zt,hb] at hc; cases hc
theorem eF {α:Type}:∀ (l:List (Nat×TSl)) (k:List (Nat×TSl)->α),eX l k=k l
 | [],k=>rfl
 | (i,.dead)::l,k=>by unfold eX; exact eF l _
 | (i,.c (.v (.v t y)))::l,k=>by unfold eX; exact eF l _
 | (i,.c (.v .dead))::l,k=>by unfold eX; exact eF l _
 | (i,.c (.v .nil))::l,k=>by unfold eX; exact eF l _
 | (i,.c (.v (.loc _ _)))::l,k=>by unfold eX; exact eF l _
 | (i,.c (.v (.own _)))::l,k=>by unfold eX; exact eF l _
 | (i,.c (.v (.el _ _ _ _)))::l,k=>by unfold eX; exact eF l _
 | (i,.c (.v (.ip _ _ _)))::l,k=>by unfold eX; exact eF l _
 | (i,.c (.v (.mp _)))::l,k=>by unfold eX; exact eF l _
 | (i,.c (.v (.fn _ _)))::l,k=>by unfold eX; exact eF l _
 | (i,.c (.v (.sv _ _ _ _)))::l,k=>by unfold eX; exact eF l _
 | (i,.c (.v (.oth _)))::l,k=>by unfold eX; exact eF l _
 | (i,.c (.v (.nb _ _ _)))::l,k=>by unfold eX; exact eF l _
 | (i,.c (.v (.tl _ _)))::l,k=>by unfold eX; exact eF l _
 | (i,.c (.v (.ps _)))::l,k=>by unfold eX; exact eF l _
 | (i,.c (.g _))::l,k=>by unfold eX; exact eF l _
 | (i,.t _)::l,k=>by unfold eX; exact eF l _
theorem yg {ops:List Oper} {g d:Nat} {x:TSl} (h:Dm fx ops cur g=some (d,x)):jv ops (un2 fx cur) g=x.un/\kr fx cur d=x:=by
 unfold Dm at h;unfold jv;split at h
 ·rename_i o ho;split at h
  ·rename_i d' hd;injection h with h
   injection h with h1 h2
   subst h1;rw[pv] at h2;have hx:kr fx cur d'=x:=h2;rw[ho];refine⟨?_,hx⟩;show (match o.dst with | some d=>(un2 fx cur).tm d | none=>.dead)=_;rw[hd];show (un2 fx cur).tm d'=_;rw[iG,hx]
  ·cases h
 ·cases h
theorem I1 {d:Nat} {c:Bool} (h:kr fx cur d=tV .bool c):un2 fx ⟨qp cur.tm d (tV .bool c),cur.hp⟩=un2 fx cur:=by
 refine St.ext' (fun k=>?_) (fun o=>?_)
 ·rw[iG,iG];unfold kr at h ⊢;dsimp only;rw[bW,ow];by_cases hk:k=d
  ·subst hk;rw[if_pos rfl,h]; rfl
  ·rw[if_neg hk,bW]
 ·rw[gR,gR]; rfl
theorem zu (d:Option Nat):(un2 fx cur).app d oO=un2 fx (qq cur d (.t []) []):=Dx d (.t []) [] True
theorem mM {t:Ty} {l:TL} {k:t.den->List Nat->Option ρ} (hlf:ox t=true) (h:II fx cur t l k=some r):∃ x os,k x os=some r/\∀ σ hps,σ.v=none->(∀ o∈os,o∉σ.m.map (·.1))->nu σ (un2 fx cur) hps l.un (TL.v t x).un:=by
 unfold II at h;split at h
 ·rename_i t' x;obtain⟨y,h,he⟩:=lg h;exact⟨_,_,h,fun σ hps _ _=>by rw[pw he]; exact lN _ _ _⟩
 ·obtain⟨y,h,he⟩:=sN h;refine⟨_,_,h,fun σ hps _ _=>?_⟩;have hu:(TL.v t y).un = .p (.sl []):=by
   show (match enc t y with | [p]=>aJ.p p | _=>.dead)=_;rw[he]
  rw[hu]; rfl
 ·rename_i o;split at h
  ·rename_i e t' l ho;obtain⟨y,h,he⟩:=lg h;refine⟨_,_,h,fun σ hps hv ho2=>?_⟩;have hu:(TL.v t y).un = .p (.sl (l.map (enc t'))):=pw he;rw[hu];refine⟨?_,ho2 o (by simp),?_⟩
   ·rw[dA ho]; rfl
   ·unfold Ren.may; rw[hv]; trivial
  ·cases h
 ·cases h
theorem wA:∀ (t:Ty) (ls:List TL) (k:t.den->List Nat->List TL->Option ρ),A5 fx cur t ls k=some r->∃ x os rest,k x os rest=some r/\∃ pre,ls=pre++rest/\∀ σ hps,σ.v=none->(∀ o∈os,o∉σ.m.map (·.1))->kz σ (un2 fx cur) hps (pre.map TL.un) ((dR t x).map TL.un)
 | .pair a b,ls,k,h=>by
  unfold A5 at h;obtain⟨x,os,r1,h1,p1,rfl,e1⟩:=wA a ls _ h;obtain⟨y,ps,r2,h2,p2,rfl,e2⟩:=wA b r1 _ h1;refine⟨(x,y),os++ps,r2,h2,p1++p2,by rw[List.append_assoc],fun σ hps hv ho=>?_⟩;show kz σ _ hps ((p1++p2).map TL.un) ((dR a x++dR b y).map TL.un);rw[List.map_append,List.map_append];exact sY (e1 σ hps hv fun o h=>ho o (List.mem_append_left _ h)) (e2 σ hps hv fun o h=>ho o (List.mem_append_right _ h))
 | .any,[],k,h=>by cases h
 | .int kd,[],k,h=>by cases h
 | .bool,[],k,h=>by cases h
 | .str,[],k,h=>by cases h
 | .sl e,[],k,h=>by cases h
 | .map kd e,[],k,h=>by cases h
 | .map kd e,l::ls,k,h=>by obtain⟨x,os,h2,e⟩:=mM (t := .map kd e) rfl h; exact⟨x,os,ls,h2,[l],rfl,fun σ hps hv ho=>⟨e σ hps hv ho,trivial⟩⟩
 | .slu i,[],k,h=>by cases h
 | .slu i,l::ls,k,h=>by
  obtain⟨x,os,h2,e⟩:=mM (t := .slu i) rfl h;refine⟨x,os,ls,h2,[l],rfl,fun σ hps hv ho=>⟨?_,trivial⟩⟩;have e1:=e σ hps hv ho;rw[← pw (a := .slu i) (x:=x) (pQ i x)] at e1;exact e1
 | .any,l::ls,k,h=>by obtain⟨x,os,h2,e⟩:=mM (t := .any) rfl h; exact⟨x,os,ls,h2,[l],rfl,fun σ hps hv ho=>⟨e σ hps hv ho,trivial⟩⟩
 | .int kd,l::ls,k,h=>by obtain⟨x,os,h2,e⟩:=mM (t := .int kd) rfl h; exact⟨x,os,ls,h2,[l],rfl,fun σ hps hv ho=>⟨e σ hps hv ho,trivial⟩⟩
 | .bool,l::ls,k,h=>by obtain⟨x,os,h2,e⟩:=mM (t := .bool) rfl h; exact⟨x,os,ls,h2,[l],rfl,fun σ hps hv ho=>⟨e σ hps hv ho,trivial⟩⟩
 | .str,l::ls,k,h=>by obtain⟨x,os,h2,e⟩:=mM (t := .str) rfl h; exact⟨x,os,ls,h2,[l],rfl,fun σ hps hv ho=>⟨e σ hps hv ho,trivial⟩⟩
 | .sl e,l::ls,k,h=>by obtain⟨x,os,h2,e⟩:=mM (t := .sl e) rfl h; exact⟨x,os,ls,h2,[l],rfl,fun σ hps hv ho=>⟨e σ hps hv ho,trivial⟩⟩
theorem nM {te:Ty}:∀ (l:List Operand) (k:List (Nat×TSl)->List Nat->Option ρ),vZ fx cur te l k=some r->∃ ns os,k ns os=some r/\∀ σ hps,σ.v=none->(∀ o∈os,o∉σ.m.map (·.1))->∀ x∈ns,o9 σ (un2 fx cur) hps (kr fx cur x.1).un x.2.un
 | [],k,h=>⟨[],[],h,fun _ _ _ _ x hx=>nomatch hx⟩
 | .tmp t::l,k,h=>by
  unfold vZ at h;split at h
  ·rename_i c hc;obtain⟨x,os,rest,h1,pre,hp,e1⟩:=wA te _ _ h;split at h1
   ·rw[List.append_nil] at hp;obtain⟨ns,ps,h2,e2⟩:=nM l _ h1;refine⟨_,_,h2,fun σ hps hv ho y hy=>?_⟩;rcases List.mem_cons.1 hy with rfl | hy
    ·have ht:kr fx cur t = .c c:=by
      unfold kr;rw[pv] at hc;rw[hc]; rfl
     dsimp only;rw[ht];have h3:=e1 σ hps hv fun o h=>ho o (List.mem_append_left _ h);rw[← hp] at h3;cases c with
     | g xs=>exact h3
     | v y =>
      simp only[TC.leaves,List.map_cons,List.map_nil] at h3;show nu σ _ hps y.un (TL.un (match dR te x with | y::_=>y | []=>.dead));cases hl:dR te x with
      | nil=>rw[hl] at h3; exact h3.elim
      | cons z zs=>rw[hl] at h3; exact h3.1
    ·exact e2 σ hps hv (fun o h=>ho o (List.mem_append_right _ h)) y hy
   ·cases h1
  ·cases h
 | .const _::l,k,h=>nM l k h
 | .global _::l,k,h=>nM l k h
 | .func _::l,k,h=>nM l k h
theorem nf {α:Type}:∀ (l:List (Nat×α)) (seen:List Nat),(bh (fS seen l)).Nodup
 | [],_=>List.nodup_nil
 | x::l,seen=>by
  unfold fS;cases hs:cr seen x.1 with
  | true=>rw[cond_true]; exact nf l seen
  | false =>
   rw[cond_false];show (x.1::bh (fS (x.1::seen) l)).Nodup;refine List.nodup_cons.2 ⟨fun hm=>?_,nf l _⟩;obtain⟨y,hy,he⟩:=List.mem_map.1 hm;have:=(jU l (x.1::seen) y hy).1;rw[he,(cG _ _).2 List.mem_cons_self] at this;cases this
theorem wB {os:List Nat} {σ:Ren} {hps:List (Nat×df)} (hv:σ.v=none) (ho:∀ o∈os,o∉σ.m.map (·.1)) (x:TL) (h:∀ i∈(ov fx cur os x).ik,oz σ hps i):nu σ (un2 fx cur) hps x.un (ov fx cur os x).un:=by
 cases x with
 | own o =>
  have e:ov fx cur os (.own o)=cond (cr os o) (match obT fx cur o with | some (.arr _ t l)=>TL.v (.sl t) l | _=>.own o) (.own o):=rfl;rw[e] at h ⊢;cases hb:cr os o with
  | true =>
   rw[hb,cond_true] at h;rw[cond_true];split
   ·rename_i ee t l hob;refine⟨?_,ho o ((cG _ _).1 hb),?_⟩
    ·rw[dA hob]; rfl
    ·unfold Ren.may; rw[hv]; trivial
   ·split at h
    ·rename_i hno _ ee t l hob;exact absurd hob (hno _ _ _)
    ·exact fy _ h
  | false=>rw[hb,cond_false] at h; rw[cond_false]; exact fy _ h
 | dead=>exact fy _ h
 | v t x=>exact fy _ h
 | nil=>exact fy _ h
 | loc o off=>exact fy _ h
 | el o n off z=>exact fy _ h
 | ip t x off=>exact fy _ h
 | mp o=>exact fy _ h
 | fn f caps=>exact fy _ h
 | sv o a b z=>exact fy _ h
 | oth v=>exact fy _ h
 | nb pos t l=>exact fy _ h
 | tl t l=>exact fy _ h
 | ps o=>exact fy _ h
theorem mg {os:List Nat} {σ:Ren} {hps:List (Nat×df)} (hv:σ.v=none) (ho:∀ o∈os,o∉σ.m.map (·.1)):∀ (xs:List TL),(∀ i∈(xs.map (ov fx cur os)).flatMap TL.ik,oz σ hps i)->kz σ (un2 fx cur) hps (xs.map TL.un) ((xs.map (ov fx cur os)).map TL.un)
 | [],_=>trivial
 | x::xs,h=>⟨wB hv ho x fun i hi=>h i (by simp [hi]),mg hv ho xs fun i hi=>h i (by rw[List.map_cons,List.flatMap_cons]; exact List.mem_append_right _ hi)⟩
theorem yh {os:List Nat} {σ:Ren} {hps:List (Nat×df)} (hv:σ.v=none) (ho:∀ o∈os,o∉σ.m.map (·.1)) (c:TC) (h:∀ i∈(wb fx cur os c).leaves.flatMap TL.ik,oz σ hps i):sF σ (un2 fx cur) hps c.un (wb fx cur os c).un:=by
 cases c with
 | v x=>exact wB hv ho x fun i hi=>h i (by simpa [wb,TC.leaves] using hi)
 | g xs=>exact mg hv ho xs h
theorem wC {os:List Nat} {σ:Ren} {hps:List (Nat×df)} (hv:σ.v=none) (ho:∀ o∈os,o∉σ.m.map (·.1)):∀ (l:List TC),(∀ i∈(l.map (wb fx cur os)).flatMap (fun c=>c.leaves.flatMap TL.ik),oz σ hps i)->qv σ (un2 fx cur) hps (l.map TC.un) ((l.map (wb fx cur os)).map TC.un)
 | [],_=>trivial
 | c::l,h=>⟨yh hv ho c fun i hi=>h i (by rw[List.map_cons,List.flatMap_cons]; exact List.mem_append_left _ hi),wC hv ho l fun i hi=>h i (by rw[List.map_cons,List.flatMap_cons]; exact List.mem_append_right _ hi)⟩
theorem I2 {os:List Nat} {σ:Ren} {hps:List (Nat×df)} (hv:σ.v=none) (ho:∀ o∈os,o∉σ.m.map (·.1)) (x:TSl) (h:∀ i∈(sT os (Dl fx cur os x)).ik,oz σ hps i):o9 σ (un2 fx cur) hps x.un (sT os (Dl fx cur os x)).un:=by
 unfold sT at h ⊢;cases hb:(Dl fx cur os x).ik.any (cr os) with
 | true=>rw[cond_true]; exact pV _
 | false =>
  rw[hb,cond_false] at h;rw[cond_false];cases x with
  | dead=>trivial
  | c c=>exact yh hv ho c h
  | t l=>exact wC hv ho l h
theorem Gn {os:List Nat} {σ:Ren} {hps:List (Nat×df)} (hv:σ.v=none) (ho:∀ o∈os,o∉σ.m.map (·.1)) (x:cV) (h:∀ i∈(wc fx cur os x).ik,oz σ hps i):yL σ (un2 fx cur) hps (some x.un) (wc fx cur os x).un:=by
 cases x with
 | gone=>trivial
 | box t cs=>exact⟨rfl,mg hv ho cs h⟩
 | arr e t l=>exact⟨rfl,rfl,rfl⟩
 | fO k agg t m=>exact⟨rfl,rfl,rfl⟩
 | fa agg t m=>exact⟨rfl,rfl⟩
 | fb k agg t m=>exact⟨rfl,rfl,rfl⟩
 | ql k agg t m key d=>exact⟨rfl,rfl,rfl,rfl,h d (by simp [wc,cV.ik])⟩
 | kV k e t m h=>exact⟨rfl,rfl,rfl,rfl,rfl⟩
 | lit t cs=>exact⟨rfl,mg hv ho cs h⟩
theorem Bu {os:List Nat} (hfx:∀ o∈os,(match look fx.hp o with | some _=>false | none=>true)=true) (hcl:jd ⟨fS [] (zTm fx cur os++fx.tm),fS [] (zHp fx cur os++fx.hp)⟩=true) :
  ∃ tms hps σ,Sub σ (un2 fx cur) tms hps/\qH tms hps=un2 fx ⟨zTm fx cur os,zHp fx cur os⟩:=by
 let T:=fS [] (zTm fx cur os++fx.tm)
 let O:=fS [] (zHp fx cur os++fx.hp)
 let σ:Ren:=⟨O.map fun x=>(x.1,x.1),none,true⟩
 have hT:∀ k,aq T k=aq (zTm fx cur os++fx.tm) k:=fun k=>by
  show aq (fS [] _) k=_;rw[gD,if_neg (by simp [cr])]
 have hO:∀ k,aq O k=aq (zHp fx cur os++fx.hp) k:=fun k=>by
  show aq (fS [] _) k=_;rw[gD,if_neg (by simp [cr])]
 have hz:∀ o,aq (zHp fx cur os) o=(if !cr os o then aq cur.hp o else none).map (wc fx cur os):=fun o=>by
  unfold zHp;rw[jw (wc fx cur os),fi (fun k=>!cr os k)]
 have hnd:(bh O).Nodup:=nf _ _;have hos:∀ o∈os,o∉bh O:=fun o ho hk=>by
  have h1:aq O o=none:=by
   rw[hO,bW,hz,(cG os o).2 ho];have:=hfx o ho;rw[look_eq] at this;show aq fx.hp o=none;cases hl:aq fx.hp o with
   | none=>rfl
   | some v=>rw[hl] at this; cases this
  exact (iH _ _).1 h1 hk
 have hm1:σ.m.map (·.1)=bh O:=by show (O.map fun x=>(x.1,x.1)).map (·.1)=_; rw[List.map_map]; rfl
 have hm2:σ.m.map (·.2)=bh O:=by show (O.map fun x=>(x.1,x.1)).map (·.2)=_; rw[List.map_map]; rfl
 have hσ:σ.nodup:=⟨by rw[hm1]; exact hnd,by rw[hm2]; exact hnd⟩;have hod:∀ o∈os,o∉σ.m.map (·.1):=fun o ho=>by rw[hm1]; exact hos o ho
 have hsame:∀ i∈bh O,oz σ (dY O) i:=fun i hi=>by
  obtain⟨y,hy,rfl⟩:=List.mem_map.1 hi;exact⟨List.mem_map.2 ⟨y,hy,rfl⟩,ln hi⟩
 unfold jd at hcl;simp only[Bool.and_eq_true,List.all_eq_true] at hcl;refine⟨nH T,dY O,σ,⟨⟨hσ,rfl,rfl,jV fun x hx _=>?_⟩,jV fun q hq=>?_,jV fun q hq=>?_⟩,?_⟩
 ·obtain⟨y,_,rfl⟩:=List.mem_map.1 hx; rfl
 ·obtain⟨y,hy,rfl⟩:=List.mem_map.1 hq;dsimp only;rw[iG];have hl:=(jU _ _ _ hy).2;have hids:∀ i∈y.2.ik,oz σ (dY O) i:=fun i hi=>hsame i ((cG _ _).1 (hcl.1 y hy i hi));rw[bW] at hl;have e1:aq (zTm fx cur os) y.1=(aq cur.tm y.1).map (fun v=>sT os (Dl fx cur os v)):=jw (fun v=>sT os (Dl fx cur os v)) cur.tm y.1;rw[e1] at hl;cases h2:aq cur.tm y.1 with
  | some v =>
   rw[h2] at hl;have hv:sT os (Dl fx cur os v)=y.2:=by simpa using hl
   have ht:kr fx cur y.1=v:=by unfold kr; rw[bW,h2]; rfl
   rw[ht,← hv];rw[← hv] at hids;exact I2 rfl hod v hids
  | none =>
   rw[h2] at hl;have hl:aq fx.tm y.1=some y.2:=by simpa using hl
   have ht:kr fx cur y.1=y.2:=by unfold kr; rw[bW,h2]; dsimp only; rw[hl]; rfl
   rw[ht];exact pW _ hids
 ·obtain⟨y,hy,rfl⟩:=List.mem_map.1 hq;show HSub σ (un2 fx cur) (dY O) (y.1,y.2.un);unfold HSub;have hk:y.1∈bh O:=mem_keys hy;rw[lk hσ (hsame _ hk).1];dsimp only;have hl:=(jU _ _ _ hy).2;have hids:∀ i∈y.2.ik,oz σ (dY O) i:=fun i hi=>hsame i ((cG _ _).1 (hcl.2 y hy i hi));rw[bW,hz] at hl;cases hb:cr os y.1 with
  | true=>exact absurd hk (hos _ ((cG _ _).1 hb))
  | false =>
   rw[hb] at hl;simp only[Bool.not_false,if_true] at hl;rw[gR,ku,bW];cases h2:aq cur.hp y.1 with
   | some v =>
    rw[h2] at hl;have hv:wc fx cur os v=y.2:=by simpa using hl
    rw[← hv] at hids ⊢;exact Gn rfl hod v hids
   | none =>
    rw[h2] at hl;have hl:aq fx.hp y.1=some y.2:=by simpa using hl
    dsimp only;rw[hl];exact sZ _ hids
 ·refine St.ext' (fun k=>?_) (fun o=>?_)
  ·rw[iG];show (aq (nH T) k).getD .dead=_;unfold nH;rw[jw TSl.un,hT];unfold kr;dsimp only;cases aq (zTm fx cur os++fx.tm) k <;> rfl
  ·rw[gR,ku];show aq (dY O) o=_;unfold dY;rw[jw cV.un,hO]
theorem Lp {op:Op} {k:TSt->Option ρ} (h:NQ E fx op cur k=some r):∃ cur',k cur'=some r/\∃ tms hps σ,Sub σ (un2 fx cur) tms hps/\qH tms hps=un2 fx cur':=by
 unfold NQ at h;split at h
 ·rename_i ps;cases hnf:Ew fx cur (ps.toList.map (·.2)) with
  | true =>
   rw[hnf,cond_true] at h;obtain⟨hc,h⟩:=aG h;rw[Bool.and_eq_true,List.all_eq_true] at hc;exact⟨_,h,Bu hc.1 hc.2⟩
  | false =>
  rw[hnf,cond_false] at h;split at h
  ·rename_i te _;obtain⟨ns,os,h,hns⟩:=nM _ _ h;obtain⟨hc,h⟩:=aG h;rw[Bool.and_eq_true,List.all_eq_true] at hc;obtain⟨hfx,hcl⟩:=hc
   let T:=fS [] (xX cur ns os++fx.tm)
   let O:=fS [] (wa cur os++fx.hp)
   let σ:Ren:=⟨O.map fun x=>(x.1,x.1),none,true⟩
   have hT:∀ k,aq T k=aq (xX cur ns os++fx.tm) k:=fun k=>by
    show aq (fS [] _) k=_;rw[gD,if_neg (by simp [cr])]
   have hO:∀ k,aq O k=aq (wa cur os++fx.hp) k:=fun k=>by
    show aq (fS [] _) k=_;rw[gD,if_neg (by simp [cr])]
   have hnd:(bh O).Nodup:=nf _ _;have hos:∀ o∈os,o∉bh O:=fun o ho hk=>by
    have h1:aq O o=none:=by
     rw[hO,bW];have:aq (wa cur os) o=none:=by
      unfold wa;rw[fi (fun k=>!cr os k),(cG os o).2 ho]; rfl
     rw[this];have:=hfx o ho;rw[look_eq] at this;cases hl:aq fx.hp o with
     | none=>rfl
     | some v=>rw[hl] at this; cases this
    exact (iH _ _).1 h1 hk
   have hm1:σ.m.map (·.1)=bh O:=by show (O.map fun x=>(x.1,x.1)).map (·.1)=_; rw[List.map_map]; rfl
   have hm2:σ.m.map (·.2)=bh O:=by show (O.map fun x=>(x.1,x.1)).map (·.2)=_; rw[List.map_map]; rfl
   have hσ:σ.nodup:=⟨by rw[hm1]; exact hnd,by rw[hm2]; exact hnd⟩;have hsame:∀ i∈bh O,oz σ (dY O) i:=fun i hi=>by
    obtain⟨y,hy,rfl⟩:=List.mem_map.1 hi;exact⟨List.mem_map.2 ⟨y,hy,rfl⟩,ln hi⟩
   unfold jd at hcl;simp only[Bool.and_eq_true,List.all_eq_true] at hcl;refine⟨_,h,nH T,dY O,σ,⟨⟨hσ,rfl,rfl,jV fun x hx _=>?_⟩,jV fun q hq=>?_,jV fun q hq=>?_⟩,?_⟩
   ·obtain⟨y,_,rfl⟩:=List.mem_map.1 hx; rfl
   ·obtain⟨y,hy,rfl⟩:=List.mem_map.1 hq;dsimp only;rw[iG];have hl:=(jU _ _ _ hy).2;have hids:∀ i∈y.2.ik,oz σ (dY O) i:=fun i hi=>hsame i ((cG _ _).1 (hcl.1 y hy i hi));unfold xX at hl;rw[bW,bW] at hl;cases h1:aq ns y.1 with
    | some v =>
     rw[h1] at hl;have:v=y.2:=by simpa using hl
     subst this;exact hns σ (dY O) rfl (fun o ho=>by rw[hm1]; exact hos o ho) (y.1,y.2) (dD h1)
    | none =>
     rw[h1] at hl;dsimp only at hl;have e1:aq (cur.tm.map fun x=>(x.1,sT os x.2)) y.1=(aq cur.tm y.1).map (sT os):=jw (sT os) cur.tm y.1;rw[e1] at hl;cases h2:aq cur.tm y.1 with
     | some v =>
      rw[h2] at hl;have hv:sT os v=y.2:=by simpa using hl
      have ht:kr fx cur y.1=v:=by unfold kr; rw[bW,h2]; rfl
      rw[ht,← hv];unfold sT at hv ⊢;cases hb:v.ik.any (cr os) with
      | true=>rw[cond_true]; exact pV _
      | false =>
       rw[hb,cond_false] at hv;rw[cond_false];rw[← hv] at hids;exact pW v hids
     | none =>
      rw[h2] at hl;have hl:aq fx.tm y.1=some y.2:=by simpa using hl
      have ht:kr fx cur y.1=y.2:=by unfold kr; rw[bW,h2]; dsimp only; rw[hl]; rfl
      rw[ht];exact pW _ hids
   ·obtain⟨y,hy,rfl⟩:=List.mem_map.1 hq;show HSub σ (un2 fx cur) (dY O) (y.1,y.2.un);unfold HSub;have hk:y.1∈bh O:=mem_keys hy;rw[lk hσ (hsame _ hk).1];dsimp only;have hl:=(jU _ _ _ hy).2;have hob:obT fx cur y.1=some y.2:=by
     rw[ku,bW];rw[bW] at hl;have e1:aq (wa cur os) y.1=if !cr os y.1 then aq cur.hp y.1 else none:=fi (fun k=>!cr os k) cur.hp y.1
     rw[e1] at hl;cases hb:cr os y.1 with
     | true=>exact absurd hk (hos _ ((cG _ _).1 hb))
     | false =>
      rw[hb] at hl;simp only[Bool.not_false,if_true] at hl;exact hl
    rw[gR,hob];exact sZ _ fun i hi=>hsame i ((cG _ _).1 (hcl.2 y hy i hi))
   ·refine St.ext' (fun k=>?_) (fun o=>?_)
    ·rw[iG];show (aq (nH T) k).getD .dead=_;unfold nH;rw[jw TSl.un,hT];unfold kr;dsimp only;cases aq (xX cur ns os++fx.tm) k <;> rfl
    ·rw[gR,ku];show aq (dY O) o=_;unfold dY;rw[jw cV.un,hO]
  ·cases h
 ·obtain⟨hc,h⟩:=aG h;rw[Bool.and_eq_true,List.all_eq_true] at hc;exact⟨_,h,Bu hc.1 hc.2⟩
 ·cases h
theorem Lq {P:Program} {o:Oper} {k:TSt->Option ρ} (hvs:Γ.vs=E.fz) {Q:St->Prop} (hk:∀ c,k c=some r->Q (un2 fx c)) (h:NR E fx o cur k=some r):rq Γ o (un2 fx cur) Q:=by
 unfold rq;unfold NR at h;have hv:inL Γ.vs o.dst=match o.dst with | some d=>cr E.fz d | none=>false:=by
  unfold inL;rw[hvs];cases o.dst with
  | none=>rfl
  | some d =>
   dsimp only;rw[Bool.eq_iff_iff,cG];simp
 rw[hv];split at h
 ·rename_i d hd;cases hb:cr E.fz d with
  | true =>
   rw[hb,cond_true] at h;rw[if_pos (by rw[hd]; exact hb)];obtain⟨c',h1,tms,hps,σ,h2,h3⟩:=Lp h;exact .inr ⟨tms,hps,σ,h2,by rw[h3]; exact hk _ h1⟩
  | false =>
   rw[hb,cond_false] at h;rw[if_neg (by rw[hd]; dsimp only; rw[hb]; simp)];exact hk _ h
 ·rename_i hd;rw[if_neg (by rw[hd]; simp)];exact hk _ h
theorem Lr {o:Oper} {s:St} {Q:St->Prop} (h:Q s):rq Γ o s Q:=by
 unfold rq;split
 ·exact .inl h
 ·exact h
theorem EO {P:Program} (hP:P=E.P) (hvs:Γ.vs=E.fz) (hΦ:∀ con∈E.Φ,au E.P con) (hΓ:Γ.hs=E.hs/\Γ.fz=E.zs/\Γ.mv=E.ns/\Γ.bx=E.bs) {ops:List Oper} {K:TSt->Option ρ} {Q:St->Prop} (hQ:∀ c,K c=some r->Q (un2 fx c)):∀ (l:List Oper) (cur:TSt),xj E fx ops l cur K=some r->od P Γ ops l (un2 fx cur) Q
 | [],cur,h=>hQ cur h
 | o::rest,cur,h=>by
  subst hP;have ih:=EO (ops:=ops) rfl hvs hΦ hΓ hQ rest;have run:∀ cur:TSt,(opT E fx o.op o.dst cur fun x wr=>eX (qq cur o.dst x wr).tm fun tm=>xj E fx ops rest ⟨tm,(qq cur o.dst x wr).hp⟩ K)=some r->oP E.P Γ (un2 fx cur) o fun e=>od E.P Γ ops rest ((un2 fx cur).app o.dst e) Q:=by
   intro cur h;obtain⟨x,wr,h1,h2⟩:=N4 hΦ hΓ h;dsimp only at h1;rw[eF] at h1;have h3:=ih _ h1;exact qL (fun e he=>by rw[he]; exact h3) h2
  unfold od;unfold xj at h;split at h
  ·rename_i hg;refine Lq (P:=E.P) hvs (fun c hc=>?_) h;rw[hg];exact run c hc
  ·rename_i g b hg;refine Lr ?_;rw[hg];dsimp only;split at h
   ·rename_i d c hgt;obtain⟨c,rfl⟩:∃ q:Bool,q=c:=⟨c,rfl⟩;obtain⟨g1,g2⟩:=yg hgt;rw[g1];show (c=b->_)/\(c = !b->_);have hk:=I1 g2;cases c with
    | true =>
     rw[cond_true] at h;cases b with
     | true =>
      rw[cond_true] at h;refine⟨fun _=>?_,(fun h=>nomatch h)⟩;have:=run ⟨qp cur.tm d (tV .bool true),cur.hp⟩ h;rw[hk] at this;exact this
     | false =>
      rw[cond_false] at h;refine⟨(fun h=>nomatch h),fun _=>?_⟩;have:=ih _ h;rw[← zu,hk] at this;exact this
    | false =>
     rw[cond_false] at h;cases b with
     | true =>
      rw[cond_true] at h;refine⟨(fun h=>nomatch h),fun _=>?_⟩;have:=ih _ h;rw[← zu,hk] at this;exact this
     | false =>
      rw[cond_false] at h;refine⟨fun _=>?_,(fun h=>nomatch h)⟩;have:=run ⟨qp cur.tm d (tV .bool false),cur.hp⟩ h;rw[hk] at this;exact this
   ·rename_i d l hgt;obtain⟨g1,g2⟩:=yg hgt;rw[g1];show od E.P Γ ops rest ((un2 fx cur).app o.dst oO) Q;rw[zu];exact ih _ h
   ·cases h
end
end Go.Lad
