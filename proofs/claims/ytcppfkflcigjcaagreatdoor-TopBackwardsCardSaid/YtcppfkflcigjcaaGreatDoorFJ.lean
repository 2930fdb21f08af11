import Derived.Test.YtcppfkflcigjcaaGreatDoorFI
set_option linter.unusedVariables false
set_option linter.unusedSimpArgs false
set_option linter.unusedSectionVars false
namespace Go.Lad
open Go.RowKit
section
variable {ρ:Type} {E:Env} {Γ:Opt} {fx cur:TSt} {r:ρ}
def Stepped (P:Program) (Γ:Opt) (fx cur:TSt) (o:Oper) (k:KE ρ) (r:ρ):Prop :=
 ∃ x wr,k x wr=some r/\rf P Γ (un2 fx cur) o fun e=>(un2 fx cur).app o.dst e=un2 fx (sY cur o.dst x wr)
theorem bU {P:Program} {o:Oper} {op':Option Eff} {k:KE ρ} (hno:rH Γ (un2 fx cur) o) (hd:Did op' k r) (hx:opX P Γ (un2 fx cur) o=op') (hnc:∀ c f,o.op = .call c->c.callee ≠ .value f):Stepped P Γ fx cur o k r:=by
 obtain⟨x,wr,c,h1,h2,h3⟩:=hd;refine⟨x,wr,h1,?_⟩;unfold rf;split
 ·rename_i f a t heq;exact absurd rfl (hnc _ f heq)
 ·rw[hx,h2];exact⟨h3,hno,Fs o.dst x wr c⟩
theorem tC {P:Program} {o:Oper} {a b:Option Eff} {k:KE ρ} (hno:rH Γ (un2 fx cur) o) (hd:Did a k r) (hx:opX P Γ (un2 fx cur) o=orE a b) (hnc:∀ c f,o.op = .call c->c.callee ≠ .value f):Stepped P Γ fx cur o k r:=by
 refine bU hno hd ?_ hnc;obtain⟨x,wr,c,h1,h2,h3⟩:=hd;rw[hx,h2]; rfl
theorem BG {P:Program} {o:Oper} {a b:Option Eff} {k:KE ρ} (hno:rH Γ (un2 fx cur) o) (hd:Did b k r) (ha:a=none) (hx:opX P Γ (un2 fx cur) o=orE a b) (hnc:∀ c f,o.op = .call c->c.callee ≠ .value f):Stepped P Γ fx cur o k r:=by
 refine bU hno hd ?_ hnc;rw[hx,ha]; rfl
theorem GJ:(un2 fx cur).arg=fun x=>cU fx cur (evT fx cur cq x):=by
 funext x
 unfold St.arg cU;rw[fJ]
theorem uA {α:Type} {a:Array α} {l:List α} (h:a.toList=l):a=l.toArray:=by cases a; simp_all
theorem Dv {Φ:List Con} {sel:List (Nat×Nat)} {f:FuncId} {d:Nat} {con:Con} (h:Gn Φ sel f d=some con):con∈Φ/\con.f=f:=by
 unfold Gn at h;split at h
 ·split at h
  ·rename_i c hc;cases hb:Nat.beq c.f f with
   | true =>
    rw[hb] at h;simp only[cond_true,Option.some.injEq] at h;subst h;rw[eE,decide_eq_true_eq] at hb;exact⟨List.mem_of_getElem? hc,hb⟩
   | false=>rw[hb] at h; cases h
  ·cases h
 ·have h1:=List.mem_of_find?_eq_some h;have h2:=List.find?_some h;rw[eE,decide_eq_true_eq] at h2;exact⟨h1,h2⟩
set_option maxHeartbeats 1000000 in
theorem GK (c:TC):c.un.ids=c.leaves.flatMap TL.iK:=by
 have hl:∀ x:TL,x.un.ids=x.iK:=fun x=>by
  cases x with
  | v t x =>
   show (av.ids (match enc t x with | [p]=>.p p | _=>.dead))=[];split <;> rfl
  | _=>rfl
 unfold Cmp.ids;rw[lU];induction c.leaves with
 | nil=>rfl
 | cons x l ih=>rw[List.map_cons,List.flatMap_cons,List.flatMap_cons,ih,hl]
theorem BH (x:TSl):x.un.ids=x.iK:=by
 cases x with
 | dead=>rfl
 | c x=>exact GK x
 | t l =>
  show (l.map TC.un).flatMap Cmp.ids=l.flatMap fun c=>c.leaves.flatMap TL.iK;induction l with
  | nil=>rfl
  | cons x l ih=>rw[List.map_cons,List.flatMap_cons,List.flatMap_cons,ih,GK]
theorem wN {o:Oper} {k:KE ρ} (hΦ:∀ con∈E.Φ,de E.P con) (hΓ:Γ.hs=E.hs/\Γ.fz=E.zs/\Γ.mv=E.ns/\Γ.bx=E.bs) (hno:rH Γ (un2 fx cur) o) (h:o6 E fx o.op o.dst cur k=some r):Stepped E.P Γ fx cur o k r:=by
 obtain⟨dst,op,type,pos,after,g⟩:=o;have hin:inL Γ.fz dst=tA E dst:=by
  unfold inL tA;rw[hΓ.2.1];cases dst with
  | none=>rfl
  | some d =>
   dsimp only;rw[Bool.eq_iff_iff,bO];simp
 cases op with
 | move x=>exact bU hno (Gs h) (by unfold opX opE opY; simp [lR,cE,dB,iB,opV,Op.bq,fQ,fI,Function.comp_def,St.arg,fJ]) (by simp)
 | assign x=>exact bU hno (Gs h) (by unfold opX opE opY; simp [lR,cE,dB,iB,opV,Op.bq,fQ,fI,Function.comp_def,St.arg,fJ]) (by simp)
 | pick c x y=>exact bU hno (Nl h) (by unfold opX opE opY; simp [lR,cE,dB,iB,opV,Op.bq,fQ,fI,Function.comp_def,St.arg,fJ]) (by simp)
 | alloc t =>
  unfold o6 at h;dsimp only at h;split at h
  ·rename_i hz;exact bU hno (P8 h) (by rw[rI (by dsimp only; rw[hin,hz]; rfl)]; rfl) (by simp)
  ·rename_i hz;exact bU hno (KK h) (by rw[jG (by dsimp only; rw[hin,hz]; rfl)]; unfold opE opY; simp [iB,Op.bq,fQ,fI]) (by simp)
 | load t x=>exact bU hno (wL h) (by unfold opX opE opY; simp [lR,cE,dB,iB,opV,Op.bq,fQ,fI,Function.comp_def,St.arg,fJ,cU]) (by simp)
 | store t x v=>exact bU hno (KM h) (by unfold opX opE opY; simp [lR,cE,dB,iB,opV,Op.bq,fQ,fI,Function.comp_def,St.arg,fJ,cU]) (by simp)
 | nilCheck x=>exact bU hno (P0 h) (by unfold opX opE opY; simp [lR,cE,dB,iB,opV,Op.bq,fQ,fI,Function.comp_def,St.arg,fJ]) (by simp)
 | fieldAddr t x f=>exact bU hno (Bx h) (by unfold opX opE opY; simp [lR,cE,dB,iB,opV,Op.bq,fQ,fI,Function.comp_def,St.arg,fJ]) (by simp)
 | field t x f=>exact bU hno (KN h) (by unfold opX opE opY; simp [lR,cE,dB,iB,opV,Op.bq,fQ,fI,Function.comp_def,St.arg,fJ]) (by simp)
 | indexAddr t x i =>
  have hX:opX E.P Γ (un2 fx cur) ⟨dst,.indexAddr t x i,type,pos,after,g⟩=orE (eX E.P t [cU fx cur (evT fx cur cq x),cU fx cur (evT fx cur cq i)]) (pL E.P t [cU fx cur (evT fx cur cq x),cU fx cur (evT fx cur cq i)]):=by
   unfold opX opE opY; simp [lR,cE,dB,opV,Op.bq,St.arg,fJ,cU]
  have h:PK E.P fx cur t (evT fx cur cq x) (evT fx cur cq i) k=some r:=h;unfold PK at h;split at h
  ·rename_i m e hu;refine BG hno (Ns hu h) ?_ hX (by simp);have hne:cR E.P t=none:=by unfold cR; rw[hu]
   unfold eX;split <;> first | rfl | rw[hne]
  ·exact tC hno (By h) hX (by simp)
 | index t x i=>exact bU hno (KO h) (by unfold opX opE opY; simp [lR,cE,dB,iB,opV,Op.bq,fQ,fI,Function.comp_def,St.arg,fJ]) (by simp)
 | binOp b t x y t' =>
  unfold o6 at h;dsimp only at h;split at h
  ·rename_i hz;split at h
   ·rename_i hb;obtain⟨_,h⟩:=Nw h;refine bU hno h ?_ (by simp);have ht:dB (.binOp b t x y t')=true:=by cases b <;> first | rfl | cases hb
    rw[rI (by dsimp only; rw[hin,hz]; exact ht)];simp [xu,Op.bq,St.arg,fJ,cU]
   ·obtain⟨rfl,x',wr,c,h1,h2,h3⟩:=Nk h;refine bU (op':=some ⟨c,x'.un,du wr⟩) hno ⟨x',wr,c,h1,rfl,h3⟩ ?_ (by simp);rw[xw (by dsimp only; rw[hin,hz]; rfl)];show uZ _=_;rw[← h2];simp [Op.bq,fJ]
  ·rename_i hz;have hX:opX E.P Γ (un2 fx cur) ⟨dst,.binOp b t x y t',type,pos,after,g⟩=orE (mS E.P b t [(evT fx cur cq x).un,(evT fx cur cq y).un]) (zd E.P b t (isC y) [(evT fx cur cq x).un,(evT fx cur cq y).un]):=by
    rw[jG (by dsimp only; rw[hin,hz]; rfl)];unfold opE opY; simp [iB,opV,Op.bq,Function.comp_def,St.arg,fJ]
   split at h
   ·rename_i xs ys hx hy;obtain⟨y',wr,c,h1,h2,h3⟩:=P4 h;refine bU (op':=some ⟨c,y'.un,du wr⟩) hno ⟨y',wr,c,h1,rfl,h3⟩ ?_ (by simp);rw[hX,hx,hy];have h4:zd E.P b t (isC y) [TSl.un (.c (.g xs)),TSl.un (.c (.g ys))]=some ⟨c,y'.un,du wr⟩:=by unfold zd; rw[h2]
    rw[h4];rfl
   ·rename_i hx hy;obtain⟨y',wr,c,h1,h2,h3⟩:=QT h;refine bU (op':=some ⟨c,y'.un,du wr⟩) hno ⟨y',wr,c,h1,rfl,h3⟩ ?_ (by simp);rw[hX,hx,hy];have h4:zd E.P b t (isC y) [TSl.un (.c (.v (.oth .nilIface))),TSl.un (.c (.v (.oth .nilIface)))]=some ⟨c,y'.un,du wr⟩:=by
     unfold zd;rw[show rb E.P b t [TSl.un (.c (.v (.oth .nilIface))),TSl.un (.c (.v (.oth .nilIface)))]=none from rfl,show Ey b [TSl.un (.c (.v (.oth .nilIface))),TSl.un (.c (.v (.oth .nilIface)))]=none from rfl];exact h2
    rw[h4];rfl
   ·split at h
    ·obtain⟨h5,h6,h7⟩:=QS (P:=E.P) (t:=t) h;obtain⟨y',wr,c,h1,h2,h3⟩:=h7;refine bU (op':=some ⟨c,y'.un,du wr⟩) hno ⟨y',wr,c,h1,rfl,h3⟩ ?_ (by simp);rw[hX,h5];show zd E.P b t _ _=_;unfold zd;rw[h6,h2]
    ·obtain⟨y',wr,c,h1,h2,h3⟩:=P3 h;refine bU (op':=some ⟨c,y'.un,du wr⟩) hno ⟨y',wr,c,h1,rfl,h3⟩ ?_ (by simp);rw[hX,h2]; rfl
 | unOp b t x=>exact bU hno (QU h) (by unfold opX opE opY; simp [lR,cE,dB,iB,opV,Op.bq,fQ,fI,Function.comp_def,St.arg,fJ]) (by simp)
 | extract x i=>exact bU hno (Fi h) (by unfold opX opE opY; simp [lR,cE,dB,iB,opV,Op.bq,fQ,fI,Function.comp_def,St.arg,fJ]) (by simp)
 | build t ps=>exact bU hno (yi h) (by unfold opX opE opY; simp [lR,cE,dB,iB,opV,Op.bq,fQ,fI,Function.comp_def,St.arg,fJ]) (by simp)
 | buildSlice t n ps =>
  unfold o6 at h;dsimp only at h;split at h
  ·rename_i d';cases hz:bu E.zs d' with
   | true =>
    rw[hz,cond_true] at h;obtain⟨x,wr,c,h1,h2,h3⟩:=Ip h;refine bU (op':=some ⟨c,x.un,du wr⟩) hno ⟨x,wr,c,h1,rfl,h3⟩ ?_ (by simp);have hf:(inL Γ.fz (some d') && cE (.buildSlice t n ps))=true:=by
     rw[hΓ.2.1];show (E.zs.contains d' && true)=true;rw[Bool.and_true,List.contains_iff_mem]; exact (bO _ _).1 hz
    rw[xw hf];have hmv:inL Γ.mv (some d')=bu E.ns d':=by
     show Γ.mv.contains d'=_;rw[hΓ.2.2.1,Bool.eq_iff_iff,bO,List.contains_iff_mem]
    have e1:List.map (un2 fx cur).ev (Op.bq (.buildSlice t n ps))=(ps.toList.map fun p=>evT fx cur cq p.2).map TSl.un:=by
     simp [Op.bq,Function.comp_def,fJ]
    dsimp only;rw[e1,hmv];exact h2
   | false =>
    rw[hz,cond_false] at h;have hnz:(inL Γ.fz (some d') && cE (.buildSlice t n ps))=false:=by
     rw[hΓ.2.1];show (E.zs.contains d' && true)=false;rw[Bool.and_true,Bool.eq_false_iff];intro hc;rw[List.contains_iff_mem] at hc;rw[(bO _ _).2 hc] at hz; cases hz
    have hX:opX E.P Γ (un2 fx cur) ⟨some d',.buildSlice t n ps,type,pos,after,g⟩=orE (dx E.P t n (ps.toList.map (·.1)) (some d') (aF (un2 fx cur).hp (some d')) ((ps.toList.map fun p=>evT fx cur cq p.2).map (cU fx cur))) (fN E.P t n (ps.toList.map (·.1)) (some d') (aF (un2 fx cur).hp (some d')) ((ps.toList.map fun p=>evT fx cur cq p.2).map TSl.un)):=by
     rw[jG hnz];unfold opE opY; simp [opV,Op.bq,Function.comp_def,St.arg,fJ,cU]
    rcases Fj h with⟨h1,h2⟩ | h2
    ·rw[h1] at hX;exact bU hno h2 hX (by simp)
    ·exact tC hno h2 hX (by simp)
  ·cases h
 | convert s t x =>
  unfold o6 at h;dsimp only at h;split at h
  ·rename_i hz;exact nomatch h
  ·rename_i hz;exact bU hno (No h) (by rw[jG (by dsimp only; rw[hin,hz]; rfl)]; unfold opE opY; simp [iB,opV,Op.bq,fQ,fI,Function.comp_def,St.arg,fJ,cU]) (by simp)
 | mapEntry t m x=>exact nomatch h
 | entryStore t m st v=>exact nomatch h
 | slice t x l hh m =>
  cases m with
  | none =>
   cases hz:tA E dst with
   | true =>
    have h':Gk E.P fx cur t l.isSome hh.isSome dst (evT fx cur cq x) ((l.toList++hh.toList).map (evT fx cur cq)) k=some r:=by
     unfold o6 at h;cases l <;> cases hh <;> (dsimp only at h; rw[hz] at h; exact h)
    exact bU hno (Ny h') (by rw[rI (by dsimp only; rw[hin,hz]; rfl)]; simp [xu,Op.bq,Function.comp_def,GJ]) (by simp)
   | false =>
    have h':Br E.P fx cur t l.isSome hh.isSome (evT fx cur cq x) ((l.toList++hh.toList).map (evT fx cur cq)) k=some r:=by
     unfold o6 at h;cases l <;> cases hh <;> (dsimp only at h; rw[hz] at h; exact h)
    exact bU hno (KQ h') (by rw[jG (by dsimp only; rw[hin,hz]; rfl)]; unfold opE opY; simp [iB,Op.bq,fQ,fI,Function.comp_def,GJ]) (by simp)
  | some m =>
   cases l with
   | some l=>cases hh <;> cases h
   | none =>
    cases hh with
    | none=>cases h
    | some hh=>exact nomatch h
 | box t x =>
  unfold o6 at h;dsimp only at h;split at h
  ·rename_i hz;exact bU hno (NA h) (by rw[rI (by dsimp only; rw[hin,hz]; rfl)]; simp [xu,Op.bq,St.arg,fJ,cU]) (by simp)
  ·rename_i hz;exact bU hno (P6 h) (by rw[jG (by dsimp only; rw[hin,hz]; rfl)]; unfold opE opY; simp [iB,opV,Op.bq,fQ,fI,Function.comp_def,St.arg,fJ]) (by simp)
 | makeMap t rs =>
  cases rs with
  | none =>
   unfold o6 at h;dsimp only at h;split at h
   ·rename_i hz;exact bU hno (KU h) (by rw[rI (by dsimp only; rw[hin,hz]; rfl)]; rfl) (by simp)
   ·rename_i hz;exact bU hno (Fl h) (by rw[jG (by dsimp only; rw[hin,hz]; rfl)]; unfold opE opY; simp [iB,Op.bq,fQ,fI]) (by simp)
  | some m=>cases h
 | lookup t m x ok =>
  have hL:(inL Γ.fz dst && dB (.lookup t m x ok))=false->Km E.P fx cur E.H t ok (evT fx cur cq m) (evT fx cur cq x) k=some r->Stepped E.P Γ fx cur ⟨dst,.lookup t m x ok,type,pos,after,g⟩ k r:=fun hnt h=>by
   have hX:opX E.P Γ (un2 fx cur) ⟨dst,.lookup t m x ok,type,pos,after,g⟩=orE (iy E.P t ok [cU fx cur (evT fx cur cq m),cU fx cur (evT fx cur cq x)]) (match ok with | false=>pr E.P t [(evT fx cur cq m).un,(evT fx cur cq x).un] | true=>none):=by
    rw[jG (by
     dsimp only;unfold lR;rw[show cE (.lookup t m x ok)=false from rfl,Bool.false_or]; exact hnt)]
    unfold opE opY; cases ok <;> simp [opV,Op.bq,St.arg,fJ,cU]
   unfold Km at h;split at h
   ·rename_i heq;exact tC hno (KR heq h) hX (by simp)
   ·rename_i kd e m' heq;cases ok with
    | true=>cases h
    | false =>
     have h:Bu E.P t (evT fx cur cq m) (evT fx cur cq x) k=some r:=h;refine BG hno (KS h) ?_ hX (by simp);rw[heq];rfl
   ·exact tC hno (Ir h) hX (by simp)
  unfold o6 at h;cases ok with
  | true=>exact hL (by simp [dB]) h
  | false =>
   cases hz:tA E dst with
   | true =>
    dsimp only at h;rw[hz] at h;exact bU hno (Nx h) (by rw[rI (by dsimp only; rw[hin,hz]; rfl)]; simp [xu,Op.bq,St.arg,fJ,cU]) (by simp)
   | false =>
    dsimp only at h;rw[hz] at h;exact hL (by rw[hin,hz]; rfl) h
 | mapUpdate t m x v =>
  have hX:opX E.P Γ (un2 fx cur) ⟨dst,.mapUpdate t m x v,type,pos,after,g⟩=orE (gr E.P t [cU fx cur (evT fx cur cq m),cU fx cur (evT fx cur cq x),cU fx cur (evT fx cur cq v)]) (th E.P t [cU fx cur (evT fx cur cq m),cU fx cur (evT fx cur cq x),cU fx cur (evT fx cur cq v)]):=by
   unfold opX opE opY; simp [lR,cE,dB,opV,Op.bq,St.arg,fJ,cU]
  have h:PL E.P fx cur t (evT fx cur cq m) (evT fx cur cq x) (evT fx cur cq v) k=some r:=h;unfold PL at h;split at h
  ·rename_i o heq;split at h
   ·rename_i kd e te mm hh ho;rw[heq] at hX;refine BG hno (Nt h) ?_ hX (by simp);show gr E.P t [(.c (.v (.mp o)),[(un2 fx cur).hp o]),_,_]=none;rw[cL ho];rfl
   ·exact tC hno (ur h) hX (by simp)
  ·exact tC hno (ur h) hX (by simp)
 | makeSlice t x y=>exact bU hno (BB h) (by unfold opX opE opY; simp [lR,cE,dB,iB,opV,Op.bq,fQ,fI,Function.comp_def,St.arg,fJ]) (by simp)
 | makeFunc fn first caps =>
  cases fn with
  | func f =>
   unfold o6 at h;dsimp only at h;exact bU hno (Dg h) (by unfold opX opE opY; simp [lR,cE,dB,iB,opV,Op.bq,fQ,fI,Function.comp_def,St.arg,fJ]) (by simp)
  | _=>cases h
 | call c =>
  obtain⟨callee,args,ts⟩:=c;cases callee with
  | builtin b =>
   cases b with
   | len =>
    unfold o6 at h;dsimp only at h;split at h
    ·rename_i x t h1 h2;have h1:=uA h1;have h2:=uA h2;subst h1 h2;exact bU hno (P5 h) (by unfold opX opE opY; simp [lR,cE,dB,iB,opV,Op.bq,fQ,fI,Function.comp_def,St.arg,fJ,cU]) (fun c f hc=>by cases hc; simp)
    ·cases h
   | append =>
    unfold o6 at h;dsimp only at h;split at h
    ·rename_i x y t t' h1 h2;have h1:=uA h1;have h2:=uA h2;cases hb:Nat.beq t t' with
     | false =>
      rw[hb,cond_false] at h;have hne:¬ t=t':=fun e=>by
       rw[eE,decide_eq_false_iff_not] at hb;exact hb e
      subst h1 h2;cases hz:tA E dst with
      | true=>rw[hz] at h; cases h
      | false =>
      rw[hz] at h;exact bU hno (Nr h) (by rw[jG (by dsimp only; rw[hin,hz]; rfl)]; unfold opE opY; simp [opV,Op.bq,fI,St.arg,fJ,cU,hne]) (fun c f hc=>by cases hc; simp)
     | true =>
     rw[hb,cond_true] at h;have ht:=hb;rw[eE,decide_eq_true_eq] at ht;subst h1 h2 ht;cases hz:tA E dst with
     | true =>
      rw[hz] at h;exact bU hno (Nu h) (by rw[rI (by dsimp only; rw[hin,hz]; rfl)]; simp [xu,Op.bq,St.arg,fJ,cU]) (fun c f hc=>by cases hc; simp)
     | false =>
     rw[hz] at h;have h7:z7 E.P E.H fx cur t dst (evT fx cur cq x) (evT fx cur cq y) k=some r:=h;have hX:opX E.P Γ (un2 fx cur) ⟨dst,.call ⟨.builtin .append,[x,y].toArray,[t,t].toArray⟩,type,pos,after,g⟩=orE (iw E.P t dst (aF (un2 fx cur).hp dst) [cU fx cur (evT fx cur cq x),cU fx cur (evT fx cur cq y)]) (n7 E.P t dst (aF (un2 fx cur).hp dst) [cU fx cur (evT fx cur cq x),cU fx cur (evT fx cur cq y)]):=by
      rw[jG (by dsimp only; rw[hin,hz]; rfl)]; unfold opE opY; simp [opV,Op.bq,St.arg,fJ,cU]
     rcases Fp h7 with⟨t',l,hx⟩ | h8
     ·rw[hx] at h7 hX;exact BG hno (Nv h7) (by rfl) hX (fun c f hc=>by cases hc; simp)
     ·exact tC hno (Iq h8) hX (fun c f hc=>by cases hc; simp)
    ·cases h
   | cap =>
    unfold o6 at h;dsimp only at h;split at h
    ·rename_i x t h1 h2;have h1:=uA h1;have h2:=uA h2;subst h1 h2;exact bU hno (P7 h) (by unfold opX opE opY; simp [lR,cE,dB,opV,Op.bq,fI,St.arg,fJ]) (fun c f hc=>by cases hc; simp)
    ·cases h
   | copy =>
    unfold o6 at h;dsimp only at h;split at h
    ·rename_i x y t u h1 h2;have h1:=uA h1;have h2:=uA h2;subst h1 h2;exact nomatch h
    ·cases h
   | clear =>
    unfold o6 at h;dsimp only at h;split at h
    ·rename_i x t h1 h2;have h1:=uA h1;have h2:=uA h2;subst h1 h2;exact bU hno (KT h) (by unfold opX opE opY; simp [lR,cE,dB,opV,Op.bq,fI,St.arg,fJ,cU]) (fun c f hc=>by cases hc; simp)
    ·cases h
   | min =>
    unfold o6 at h;dsimp only at h;split at h
    ·rename_i x y h1;have h1:=uA h1;subst h1;exact bU hno (Ad h) (by unfold opX opE opY; simp [lR,cE,dB,iB,opV,Op.bq,fQ,fI,Function.comp_def,St.arg,fJ]) (fun c f hc=>by cases hc; simp)
    ·rename_i x y z h1;have h1:=uA h1;subst h1;exact bU hno (yk h) (by unfold opX opE opY; simp [lR,cE,dB,iB,opV,Op.bq,fQ,fI,Function.comp_def,St.arg,fJ]) (fun c f hc=>by cases hc; simp)
    ·cases h
   | max =>
    unfold o6 at h;dsimp only at h;split at h
    ·rename_i x y h1;have h1:=uA h1;subst h1;exact bU hno (Ad h) (by unfold opX opE opY; simp [lR,cE,dB,iB,opV,Op.bq,fQ,fI,Function.comp_def,St.arg,fJ]) (fun c f hc=>by cases hc; simp)
    ·rename_i x y z h1;have h1:=uA h1;subst h1;exact bU hno (yk h) (by unfold opX opE opY; simp [lR,cE,dB,iB,opV,Op.bq,fQ,fI,Function.comp_def,St.arg,fJ]) (fun c f hc=>by cases hc; simp)
    ·cases h
   | _=>cases h
  | value f =>
   unfold o6 at h;dsimp only at h;split at h
   ·rename_i fid caps d hev;have key:∀ con,con∈E.Φ->con.f=fid / 2->C5 E fx cur ⟨.value f,args,ts⟩ caps fid d con k=some r->Stepped E.P Γ fx cur ⟨some d,.call ⟨.value f,args,ts⟩,type,pos,after,g⟩ k r:=by
     intro con hm hf h;unfold C5 at h;obtain⟨hc,h⟩:=aq h;have hfo:(un2 fx cur).ev f = .c (.v (.fn fid caps)):=by rw[fJ,hev]; rfl
     have hargs:gJ (un2 fx cur) ⟨.value f,args,ts⟩ fid caps=(cond (Nat.beq (fid % 2) 0) (args.toList.map (evT fx cur cq)++caps.map fun o=>tL (.loc o 0)) ((caps.map fun o=>tL (.loc o 0))++args.toList.map (evT fx cur cq))).map TSl.un:=by
      have e1:args.toList.map (un2 fx cur).ev=(args.toList.map (evT fx cur cq)).map TSl.un:=by
       rw[List.map_map];exact List.map_congr_left fun x _=>fJ fx cur x
      have e2:(caps.map fun o=>Slot.c (.v (.loc o 0)))=(caps.map fun o=>tL (.loc o 0)).map TSl.un:=by rw[List.map_map]; rfl
      unfold gJ;dsimp only;by_cases h2:fid % 2=0
      ·rw[if_pos h2,show Nat.beq (fid % 2) 0=true by rw[eE]; simp [h2],cond_true,List.map_append,e1,e2]
      ·rw[if_neg h2,show Nat.beq (fid % 2) 0=false by rw[eE]; simp [h2],cond_false,List.map_append,e1,e2]
     obtain⟨y,wr,h1,e,h2,h3,h4⟩:=KX (Γ:=Γ) (o:=⟨some d,.call ⟨.value f,args,ts⟩,type,pos,after,g⟩) (hΦ con hm) rfl rfl rfl hfo hf.symm hargs (fun hp=>by
      unfold oT at hp;dsimp only at hp;rw[hΓ.1] at hp;rw[Bool.and_eq_true,Bool.and_eq_true] at hc;have hc:=hc.1.2;split at hc
      ·rename_i k1 k2;rw[Bool.or_eq_true] at hc;rcases hc with hc | hc
       ·exact⟨k1,k2,hc⟩
       ·rw[bO] at hc;rw[Bool.not_eq_true',List.contains_eq_mem,decide_eq_false_iff_not] at hp;exact absurd hc hp
      ·rw[bO] at hc;rw[Bool.not_eq_true',List.contains_eq_mem,decide_eq_false_iff_not] at hp;exact absurd hc hp) (fun hp x hx i hi=>by
      unfold oT at hp;dsimp only at hp;rw[hΓ.1] at hp;rw[Bool.and_eq_true,Bool.and_eq_true,Bool.or_eq_true] at hc;rcases hc.1.1 with hl | hl
      ·rw[bO] at hl;rw[Bool.not_eq_true',List.contains_eq_mem,decide_eq_false_iff_not] at hp;exact absurd hl hp
      ·unfold KD at hl;rw[BH] at hi;have h1:=List.all_eq_true.1 (List.all_eq_true.1 hl x hx) i hi;rw[gT];cases ho:obT fx cur i with
       | none=>rw[ho] at h1; cases h1
       | some v =>
        rw[ho] at h1;refine⟨by simp,fun e cs he=>?_⟩;cases v with
        | lit e cs=>cases h1
        | _=>simp [bI.un] at he) (fun hp=>by
      unfold qp at hp;dsimp only at hp;rw[hΓ.1,List.contains_iff_mem] at hp;rw[Bool.and_eq_true] at hc;have hc:=hc.2;split at hc
      ·rename_i k1; exact k1
      ·rw[(bO _ _).2 hp] at hc; cases hc) (fun y wr hk x hx=>by
      obtain⟨hs,_⟩:=aq hk;cases hq:nE Γ ⟨some d,.call ⟨.value f,args,ts⟩,type,pos,after,g⟩ x.1 with
      | false=>rfl
      | true =>
       unfold nE at hq;dsimp only at hq;rw[hΓ.1,List.contains_iff_mem] at hq;have h1:=List.all_eq_true.1 hs _ hq;rw[Bool.or_eq_true] at h1;rcases h1 with h1 | h1
       ·rw[Nat.ble_eq] at h1; omega
       ·have:=List.all_eq_true.1 h1 x hx;rw[Nat.beq_refl] at this; cases this) h
     exact⟨y,wr,(aq h1).2,e,h2,h3,h4⟩
    split at h
    ·rename_i con hcon;obtain⟨hm,hf⟩:=Dv hcon;split at h
     ·exact key con hm hf h
     ·split at h
      ·rename_i con2 hcon2;obtain⟨hm2,hf2⟩:=Dv hcon2;unfold orT at h;split at h
       ·rename_i r' hr;injection h with h
        subst h;exact key con hm hf hr
       ·exact key con2 hm2 hf2 h
      ·cases h
    ·cases h
   ·cases h
  | invoke _ _=>cases h
 | _=>cases h
theorem BI {l:List Nat} {d:Nat}:inL l (some d)=bu l d:=by
 rw[Bool.eq_iff_iff,bO];show l.contains d=true↔_;rw[List.contains_iff_mem]
theorem Qa {o:Oper} {k:KE ρ} (hΦ:∀ con∈E.Φ,de E.P con) (hΓ:Γ.hs=E.hs/\Γ.fz=E.zs/\Γ.mv=E.ns/\Γ.bx=E.bs) (h:opT E fx o.op o.dst cur k=some r):Stepped E.P Γ fx cur o k r:=by
 unfold opT at h;obtain⟨hbt,h⟩:=aq h;have hbt:Ps Γ (un2 fx cur) o:=fun k hk t ht i hi=>by
  unfold OW at hbt;rw[hk] at hbt;rw[hΓ.2.2.2] at ht;obtain⟨e,he,h1⟩:=List.any_eq_true.1 ht;rw[Bool.and_eq_true] at h1;have h2:=List.all_eq_true.1 hbt e he;rw[h1.1,cond_true] at h2;rw[fJ,BH] at hi;have h3:=List.all_eq_true.1 h2 i hi;have e2:=Nat.eq_of_beq_eq_true h1.2;cases hb:Nat.ble 500000 (e % 1000000) with
  | true =>
   rw[hb,cond_true] at h3;have e1:=Nat.eq_of_beq_eq_true h3;exact .inr (e1.trans e2)
  | false =>
   rw[hb,cond_false] at h3;have hlt:e % 1000000<500000:=by
    rw[← Bool.not_eq_true,Nat.ble_eq] at hb; omega
   split at h3
   ·rename_i t' cs ho;have e1:=Nat.eq_of_beq_eq_true h3;refine .inl ⟨by omega,?_⟩;rw[← e2,← e1];exact⟨_,cL ho⟩
   ·cases h3
 unfold QP at h;cases hd:o.dst with
 | none =>
  rw[hd] at h;exact wN hΦ hΓ ⟨fun hc=>(by rw[hd] at hc; cases hc),fun _ hc=>(by rw[hd] at hc; cases hc),hbt⟩ (by rw[hd]; exact h)
 | some d =>
  rw[hd] at h;dsimp only at h;cases hn:bu E.ns d with
  | true =>
   rw[hn,cond_true] at h;obtain⟨hi,h⟩:=aq h;refine wN hΦ hΓ ⟨fun _ x hx=>?_,fun hc=>?_,hbt⟩ (by rw[hd]; exact h)
   ·have:=List.all_eq_true.1 hi x hx;rw[fJ,BH];split at this
    ·assumption
    ·cases this
   ·rw[hd,hΓ.2.2.1,BI,hn] at hc; cases hc
  | false =>
   rw[hn,cond_false] at h;have h1:inL Γ.mv o.dst=true->False:=fun hc=>by rw[hd,hΓ.2.2.1,BI,hn] at hc; cases hc
   cases hb:bu E.bs d with
   | true =>
    rw[hb,cond_true] at h;obtain⟨hi,h⟩:=aq h;refine wN hΦ hΓ ⟨fun hc=>(h1 hc).elim,fun _ _ x hx i hxi=>?_,hbt⟩ (by rw[hd]; exact h);rw[fJ,BH] at hxi;cases hsl:xv o.op with
    | true =>
     rw[if_pos rfl];rw[hsl,cond_true] at hi;have:=List.all_eq_true.1 (List.all_eq_true.1 hi x hx) i hxi;split at this
     ·rename_i t cs l ho; exact⟨_,_,_,cL ho⟩
     ·cases this
    | false =>
     rw[if_neg (by simp)];rw[hsl,cond_false] at hi;have:=List.all_eq_true.1 (List.all_eq_true.1 hi x hx) i hxi;split at this
     ·rename_i t cs ho; exact⟨_,_,cL ho⟩
     ·cases this
   | false =>
    rw[hb,cond_false] at h;refine wN hΦ hΓ ⟨fun hc=>(h1 hc).elim,fun _ hc=>?_,hbt⟩ (by rw[hd]; exact h);rw[hd,hΓ.2.2.2,BI,hb] at hc; cases hc
theorem eR {α:Type}:∀ (l:List (Nat×TSl)) (k:List (Nat×TSl)->α),fg l k=k l
 | [],k=>rfl
 | (i,.dead)::l,k=>by unfold fg; exact eR l _
 | (i,.c (.v (.v t y)))::l,k=>by unfold fg; exact eR l _
 | (i,.c (.v .dead))::l,k=>by unfold fg; exact eR l _
 | (i,.c (.v .nil))::l,k=>by unfold fg; exact eR l _
 | (i,.c (.v (.loc _ _)))::l,k=>by unfold fg; exact eR l _
 | (i,.c (.v (.own _)))::l,k=>by unfold fg; exact eR l _
 | (i,.c (.v (.el _ _ _ _)))::l,k=>by unfold fg; exact eR l _
 | (i,.c (.v (.ip _ _ _)))::l,k=>by unfold fg; exact eR l _
 | (i,.c (.v (.mp _)))::l,k=>by unfold fg; exact eR l _
 | (i,.c (.v (.fn _ _)))::l,k=>by unfold fg; exact eR l _
 | (i,.c (.v (.sv _ _ _ _)))::l,k=>by unfold fg; exact eR l _
 | (i,.c (.v (.oth _)))::l,k=>by unfold fg; exact eR l _
 | (i,.c (.v (.nb _ _ _)))::l,k=>by unfold fg; exact eR l _
 | (i,.c (.v (.tl _ _)))::l,k=>by unfold fg; exact eR l _
 | (i,.c (.v (.ps _)))::l,k=>by unfold fg; exact eR l _
 | (i,.c (.g _))::l,k=>by unfold fg; exact eR l _
 | (i,.t _)::l,k=>by unfold fg; exact eR l _
theorem Ap {ops:List Oper} {g d:Nat} {x:TSl} (h:Ff fx ops cur g=some (d,x)):kC ops (un2 fx cur) g=x.un/\lH fx cur d=x:=by
 unfold Ff at h;unfold kC;split at h
 ·rename_i o ho;split at h
  ·rename_i d' hd;injection h with h
   injection h with h1 h2
   subst h1;rw[rS] at h2;have hx:lH fx cur d'=x:=h2;rw[ho];refine⟨?_,hx⟩;show (match o.dst with | some d=>(un2 fx cur).tm d | none=>.dead)=_;rw[hd];show (un2 fx cur).tm d'=_;rw[iL,hx]
  ·cases h
 ·cases h
theorem KY {d:Nat} {c:Bool} (h:lH fx cur d=tV .bool c):un2 fx ⟨sX cur.tm d (tV .bool c),cur.hp⟩=un2 fx cur:=by
 refine St.ext' (fun k=>?_) (fun o=>?_)
 ·rw[iL,iL];unfold lH at h ⊢;dsimp only;rw[bf,qK];by_cases hk:k=d
  ·subst hk;rw[if_pos rfl,h]; rfl
  ·rw[if_neg hk,bf]
 ·rw[gT,gT]; rfl
theorem BJ (d:Option Nat):(un2 fx cur).app d re=un2 fx (sY cur d (.t []) []):=Fs d (.t []) [] True
theorem o9 {t:Ty} {l:TL} {k:t.den->List Nat->Option ρ} (hlf:qL t=true) (h:KG fx cur t l k=some r):∃ x os,k x os=some r/\∀ σ hps,σ.v=none->(∀ o∈os,o∉σ.m.map (·.1))->pW σ (un2 fx cur) hps l.un (TL.v t x).un:=by
 unfold KG at h;split at h
 ·rename_i t' x;obtain⟨y,h,he⟩:=nh h;exact⟨_,_,h,fun σ hps _ _=>by rw[rT he]; exact nX _ _ _⟩
 ·obtain⟨y,h,he⟩:=vh h;refine⟨_,_,h,fun σ hps _ _=>?_⟩;have hu:(TL.v t y).un = .p (.sl []):=by
   show (match enc t y with | [p]=>av.p p | _=>.dead)=_;rw[he]
  rw[hu]; rfl
 ·rename_i o;split at h
  ·rename_i e t' l ho;obtain⟨y,h,he⟩:=nh h;refine⟨_,_,h,fun σ hps hv ho2=>?_⟩;have hu:(TL.v t y).un = .p (.sl (l.map (enc t'))):=rT he;rw[hu];refine⟨?_,ho2 o (by simp),?_⟩
   ·rw[cL ho]; rfl
   ·unfold Ren.may; rw[hv]; trivial
  ·cases h
 ·cases h
theorem yu:∀ (t:Ty) (ls:List TL) (k:t.den->List Nat->List TL->Option ρ),C6 fx cur t ls k=some r->∃ x os rest,k x os rest=some r/\∃ pre,ls=pre++rest/\∀ σ hps,σ.v=none->(∀ o∈os,o∉σ.m.map (·.1))->lX σ (un2 fx cur) hps (pre.map TL.un) ((dF t x).map TL.un)
 | .pair a b,ls,k,h=>by
  unfold C6 at h;obtain⟨x,os,r1,h1,p1,rfl,e1⟩:=yu a ls _ h;obtain⟨y,ps,r2,h2,p2,rfl,e2⟩:=yu b r1 _ h1;refine⟨(x,y),os++ps,r2,h2,p1++p2,by rw[List.append_assoc],fun σ hps hv ho=>?_⟩;show lX σ _ hps ((p1++p2).map TL.un) ((dF a x++dF b y).map TL.un);rw[List.map_append,List.map_append];exact vu (e1 σ hps hv fun o h=>ho o (List.mem_append_left _ h)) (e2 σ hps hv fun o h=>ho o (List.mem_append_right _ h))
 | .any,[],k,h=>by cases h
 | .int kd,[],k,h=>by cases h
 | .bool,[],k,h=>by cases h
 | .str,[],k,h=>by cases h
 | .sl e,[],k,h=>by cases h
 | .map kd e,[],k,h=>by cases h
 | .map kd e,l::ls,k,h=>by obtain⟨x,os,h2,e⟩:=o9 (t := .map kd e) rfl h; exact⟨x,os,ls,h2,[l],rfl,fun σ hps hv ho=>⟨e σ hps hv ho,trivial⟩⟩
 | .slu i,[],k,h=>by cases h
 | .slu i,l::ls,k,h=>by
  obtain⟨x,os,h2,e⟩:=o9 (t := .slu i) rfl h;refine⟨x,os,ls,h2,[l],rfl,fun σ hps hv ho=>⟨?_,trivial⟩⟩;have e1:=e σ hps hv ho;rw[← rT (a := .slu i) (x:=x) (sB i x)] at e1;exact e1
 | .any,l::ls,k,h=>by obtain⟨x,os,h2,e⟩:=o9 (t := .any) rfl h; exact⟨x,os,ls,h2,[l],rfl,fun σ hps hv ho=>⟨e σ hps hv ho,trivial⟩⟩
 | .int kd,l::ls,k,h=>by obtain⟨x,os,h2,e⟩:=o9 (t := .int kd) rfl h; exact⟨x,os,ls,h2,[l],rfl,fun σ hps hv ho=>⟨e σ hps hv ho,trivial⟩⟩
 | .bool,l::ls,k,h=>by obtain⟨x,os,h2,e⟩:=o9 (t := .bool) rfl h; exact⟨x,os,ls,h2,[l],rfl,fun σ hps hv ho=>⟨e σ hps hv ho,trivial⟩⟩
 | .str,l::ls,k,h=>by obtain⟨x,os,h2,e⟩:=o9 (t := .str) rfl h; exact⟨x,os,ls,h2,[l],rfl,fun σ hps hv ho=>⟨e σ hps hv ho,trivial⟩⟩
 | .sl e,l::ls,k,h=>by obtain⟨x,os,h2,e⟩:=o9 (t := .sl e) rfl h; exact⟨x,os,ls,h2,[l],rfl,fun σ hps hv ho=>⟨e σ hps hv ho,trivial⟩⟩
theorem qc {te:Ty}:∀ (l:List Operand) (k:List (Nat×TSl)->List Nat->Option ρ),yc fx cur te l k=some r->∃ ns os,k ns os=some r/\∀ σ hps,σ.v=none->(∀ o∈os,o∉σ.m.map (·.1))->∀ x∈ns,rC σ (un2 fx cur) hps (lH fx cur x.1).un x.2.un
 | [],k,h=>⟨[],[],h,fun _ _ _ _ x hx=>nomatch hx⟩
 | .tmp t::l,k,h=>by
  unfold yc at h;split at h
  ·rename_i c hc;obtain⟨x,os,rest,h1,pre,hp,e1⟩:=yu te _ _ h;split at h1
   ·rw[List.append_nil] at hp;obtain⟨ns,ps,h2,e2⟩:=qc l _ h1;refine⟨_,_,h2,fun σ hps hv ho y hy=>?_⟩;rcases List.mem_cons.1 hy with rfl | hy
    ·have ht:lH fx cur t = .c c:=by
      unfold lH;rw[rS] at hc;rw[hc]; rfl
     dsimp only;rw[ht];have h3:=e1 σ hps hv fun o h=>ho o (List.mem_append_left _ h);rw[← hp] at h3;cases c with
     | g xs=>exact h3
     | v y =>
      simp only[TC.leaves,List.map_cons,List.map_nil] at h3;show pW σ _ hps y.un (TL.un (match dF te x with | y::_=>y | []=>.dead));cases hl:dF te x with
      | nil=>rw[hl] at h3; exact h3.elim
      | cons z zs=>rw[hl] at h3; exact h3.1
    ·exact e2 σ hps hv (fun o h=>ho o (List.mem_append_right _ h)) y hy
   ·cases h1
  ·cases h
 | .const _::l,k,h=>qc l k h
 | .global _::l,k,h=>qc l k h
 | .func _::l,k,h=>qc l k h
theorem pz {α:Type}:∀ (l:List (Nat×α)) (seen:List Nat),(aG (gA seen l)).Nodup
 | [],_=>List.nodup_nil
 | x::l,seen=>by
  unfold gA;cases hs:bu seen x.1 with
  | true=>rw[cond_true]; exact pz l seen
  | false =>
   rw[cond_false];show (x.1::aG (gA (x.1::seen) l)).Nodup;refine List.nodup_cons.2 ⟨fun hm=>?_,pz l _⟩;obtain⟨y,hy,he⟩:=List.mem_map.1 hm;have:=(k9 l (x.1::seen) y hy).1;rw[he,(bO _ _).2 List.mem_cons_self] at this;cases this
theorem yw {os:List Nat} {σ:Ren} {hps:List (Nat×cu)} (hv:σ.v=none) (ho:∀ o∈os,o∉σ.m.map (·.1)) (x:TL) (h:∀ i∈(qJ fx cur os x).iK,qO σ hps i):pW σ (un2 fx cur) hps x.un (qJ fx cur os x).un:=by
 cases x with
 | own o =>
  have e:qJ fx cur os (.own o)=cond (bu os o) (match obT fx cur o with | some (.arr _ t l)=>TL.v (.sl t) l | _=>.own o) (.own o):=rfl;rw[e] at h ⊢;cases hb:bu os o with
  | true =>
   rw[hb,cond_true] at h;rw[cond_true];split
   ·rename_i ee t l hob;refine⟨?_,ho o ((bO _ _).1 hb),?_⟩
    ·rw[cL hob]; rfl
    ·unfold Ren.may; rw[hv]; trivial
   ·split at h
    ·rename_i hno _ ee t l hob;exact absurd hob (hno _ _ _)
    ·exact fR _ h
  | false=>rw[hb,cond_false] at h; rw[cond_false]; exact fR _ h
 | dead=>exact fR _ h
 | v t x=>exact fR _ h
 | nil=>exact fR _ h
 | loc o off=>exact fR _ h
 | el o n off z=>exact fR _ h
 | ip t x off=>exact fR _ h
 | mp o=>exact fR _ h
 | fn f caps=>exact fR _ h
 | sv o a b z=>exact fR _ h
 | oth v=>exact fR _ h
 | nb pos t l=>exact fR _ h
 | tl t l=>exact fR _ h
 | ps o=>exact fR _ h
theorem oD {os:List Nat} {σ:Ren} {hps:List (Nat×cu)} (hv:σ.v=none) (ho:∀ o∈os,o∉σ.m.map (·.1)):∀ (xs:List TL),(∀ i∈(xs.map (qJ fx cur os)).flatMap TL.iK,qO σ hps i)->lX σ (un2 fx cur) hps (xs.map TL.un) ((xs.map (qJ fx cur os)).map TL.un)
 | [],_=>trivial
 | x::xs,h=>⟨yw hv ho x fun i hi=>h i (by simp [hi]),oD hv ho xs fun i hi=>h i (by rw[List.map_cons,List.flatMap_cons]; exact List.mem_append_right _ hi)⟩
theorem Aq {os:List Nat} {σ:Ren} {hps:List (Nat×cu)} (hv:σ.v=none) (ho:∀ o∈os,o∉σ.m.map (·.1)) (c:TC) (h:∀ i∈(yf fx cur os c).leaves.flatMap TL.iK,qO σ hps i):uW σ (un2 fx cur) hps c.un (yf fx cur os c).un:=by
 cases c with
 | v x=>exact yw hv ho x fun i hi=>h i (by simpa [yf,TC.leaves] using hi)
 | g xs=>exact oD hv ho xs h
theorem yx {os:List Nat} {σ:Ren} {hps:List (Nat×cu)} (hv:σ.v=none) (ho:∀ o∈os,o∉σ.m.map (·.1)):∀ (l:List TC),(∀ i∈(l.map (yf fx cur os)).flatMap (fun c=>c.leaves.flatMap TL.iK),qO σ hps i)->s7 σ (un2 fx cur) hps (l.map TC.un) ((l.map (yf fx cur os)).map TC.un)
 | [],_=>trivial
 | c::l,h=>⟨Aq hv ho c fun i hi=>h i (by rw[List.map_cons,List.flatMap_cons]; exact List.mem_append_left _ hi),yx hv ho l fun i hi=>h i (by rw[List.map_cons,List.flatMap_cons]; exact List.mem_append_right _ hi)⟩
theorem KZ {os:List Nat} {σ:Ren} {hps:List (Nat×cu)} (hv:σ.v=none) (ho:∀ o∈os,o∉σ.m.map (·.1)) (x:TSl) (h:∀ i∈(vn os (Fe fx cur os x)).iK,qO σ hps i):rC σ (un2 fx cur) hps x.un (vn os (Fe fx cur os x)).un:=by
 unfold vn at h ⊢;cases hb:(Fe fx cur os x).iK.any (bu os) with
 | true=>rw[cond_true]; exact sH _
 | false =>
  rw[hb,cond_false] at h;rw[cond_false];cases x with
  | dead=>trivial
  | c c=>exact Aq hv ho c h
  | t l=>exact yx hv ho l h
theorem Iv {os:List Nat} {σ:Ren} {hps:List (Nat×cu)} (hv:σ.v=none) (ho:∀ o∈os,o∉σ.m.map (·.1)) (x:bI) (h:∀ i∈(yg fx cur os x).iK,qO σ hps i):AZ σ (un2 fx cur) hps (some x.un) (yg fx cur os x).un:=by
 cases x with
 | gone=>trivial
 | box t cs=>exact⟨rfl,oD hv ho cs h⟩
 | arr e t l=>exact⟨rfl,rfl,rfl⟩
 | kx k agg t m=>exact⟨rfl,rfl,rfl⟩
 | iJ agg t m=>exact⟨rfl,rfl⟩
 | fM k agg t m=>exact⟨rfl,rfl,rfl⟩
 | sU k agg t m key d=>exact⟨rfl,rfl,rfl,rfl,h d (by simp [yg,bI.iK])⟩
 | gI k e t m h=>exact⟨rfl,rfl,rfl,rfl,rfl⟩
 | lit t cs=>exact⟨rfl,oD hv ho cs h⟩
theorem Dw {os:List Nat} (hfx:∀ o∈os,(match look fx.hp o with | some _=>false | none=>true)=true) (hcl:iI ⟨gA [] (zTm fx cur os++fx.tm),gA [] (zHp fx cur os++fx.hp)⟩=true) :
  ∃ tms hps σ,Sub σ (un2 fx cur) tms hps/\oy tms hps=un2 fx ⟨zTm fx cur os,zHp fx cur os⟩:=by
 let T:=gA [] (zTm fx cur os++fx.tm)
 let O:=gA [] (zHp fx cur os++fx.hp)
 let σ:Ren:=⟨O.map fun x=>(x.1,x.1),none,true⟩
 have hT:∀ k,ae T k=ae (zTm fx cur os++fx.tm) k:=fun k=>by
  show ae (gA [] _) k=_;rw[ik,if_neg (by simp [bu])]
 have hO:∀ k,ae O k=ae (zHp fx cur os++fx.hp) k:=fun k=>by
  show ae (gA [] _) k=_;rw[ik,if_neg (by simp [bu])]
 have hz:∀ o,ae (zHp fx cur os) o=(if !bu os o then ae cur.hp o else none).map (yg fx cur os):=fun o=>by
  unfold zHp;rw[iP (yg fx cur os),fh (fun k=>!bu os k)]
 have hnd:(aG O).Nodup:=pz _ _;have hos:∀ o∈os,o∉aG O:=fun o ho hk=>by
  have h1:ae O o=none:=by
   rw[hO,bf,hz,(bO os o).2 ho];have:=hfx o ho;rw[look_eq] at this;show ae fx.hp o=none;cases hl:ae fx.hp o with
   | none=>rfl
   | some v=>rw[hl] at this; cases this
  exact (jK _ _).1 h1 hk
 have hm1:σ.m.map (·.1)=aG O:=by show (O.map fun x=>(x.1,x.1)).map (·.1)=_; rw[List.map_map]; rfl
 have hm2:σ.m.map (·.2)=aG O:=by show (O.map fun x=>(x.1,x.1)).map (·.2)=_; rw[List.map_map]; rfl
 have hσ:σ.nodup:=⟨by rw[hm1]; exact hnd,by rw[hm2]; exact hnd⟩;have hod:∀ o∈os,o∉σ.m.map (·.1):=fun o ho=>by rw[hm1]; exact hos o ho
 have hsame:∀ i∈aG O,qO σ (du O) i:=fun i hi=>by
  obtain⟨y,hy,rfl⟩:=List.mem_map.1 hi;exact⟨List.mem_map.2 ⟨y,hy,rfl⟩,nq hi⟩
 unfold iI at hcl;simp only[Bool.and_eq_true,List.all_eq_true] at hcl;refine⟨nU T,du O,σ,⟨⟨hσ,rfl,rfl,la fun x hx _=>?_⟩,la fun q hq=>?_,la fun q hq=>?_⟩,?_⟩
 ·obtain⟨y,_,rfl⟩:=List.mem_map.1 hx; rfl
 ·obtain⟨y,hy,rfl⟩:=List.mem_map.1 hq;dsimp only;rw[iL];have hl:=(k9 _ _ _ hy).2;have hids:∀ i∈y.2.iK,qO σ (du O) i:=fun i hi=>hsame i ((bO _ _).1 (hcl.1 y hy i hi));rw[bf] at hl;have e1:ae (zTm fx cur os) y.1=(ae cur.tm y.1).map (fun v=>vn os (Fe fx cur os v)):=iP (fun v=>vn os (Fe fx cur os v)) cur.tm y.1;rw[e1] at hl;cases h2:ae cur.tm y.1 with
  | some v =>
   rw[h2] at hl;have hv:vn os (Fe fx cur os v)=y.2:=by simpa using hl
   have ht:lH fx cur y.1=v:=by unfold lH; rw[bf,h2]; rfl
   rw[ht,← hv];rw[← hv] at hids;exact KZ rfl hod v hids
  | none =>
   rw[h2] at hl;have hl:ae fx.tm y.1=some y.2:=by simpa using hl
   have ht:lH fx cur y.1=y.2:=by unfold lH; rw[bf,h2]; dsimp only; rw[hl]; rfl
   rw[ht];exact sI _ hids
 ·obtain⟨y,hy,rfl⟩:=List.mem_map.1 hq;show HSub σ (un2 fx cur) (du O) (y.1,y.2.un);unfold HSub;have hk:y.1∈aG O:=mem_keys hy;rw[np hσ (hsame _ hk).1];dsimp only;have hl:=(k9 _ _ _ hy).2;have hids:∀ i∈y.2.iK,qO σ (du O) i:=fun i hi=>hsame i ((bO _ _).1 (hcl.2 y hy i hi));rw[bf,hz] at hl;cases hb:bu os y.1 with
  | true=>exact absurd hk (hos _ ((bO _ _).1 hb))
  | false =>
   rw[hb] at hl;simp only[Bool.not_false,if_true] at hl;rw[gT,kR,bf];cases h2:ae cur.hp y.1 with
   | some v =>
    rw[h2] at hl;have hv:yg fx cur os v=y.2:=by simpa using hl
    rw[← hv] at hids ⊢;exact Iv rfl hod v hids
   | none =>
    rw[h2] at hl;have hl:ae fx.hp y.1=some y.2:=by simpa using hl
    dsimp only;rw[hl];exact vx _ hids
 ·refine St.ext' (fun k=>?_) (fun o=>?_)
  ·rw[iL];show (ae (nU T) k).getD .dead=_;unfold nU;rw[iP TSl.un,hT];unfold lH;dsimp only;cases ae (zTm fx cur os++fx.tm) k <;> rfl
  ·rw[gT,kR];show ae (du O) o=_;unfold du;rw[iP bI.un,hO]
theorem NG {op:Op} {k:TSt->Option ρ} (h:PU E fx op cur k=some r):∃ cur',k cur'=some r/\∃ tms hps σ,Sub σ (un2 fx cur) tms hps/\oy tms hps=un2 fx cur':=by
 unfold PU at h;split at h
 ·rename_i ps;cases hnf:Gq fx cur (ps.toList.map (·.2)) with
  | true =>
   rw[hnf,cond_true] at h;obtain⟨hc,h⟩:=aq h;rw[Bool.and_eq_true,List.all_eq_true] at hc;exact⟨_,h,Dw hc.1 hc.2⟩
  | false =>
  rw[hnf,cond_false] at h;split at h
  ·rename_i te _;obtain⟨ns,os,h,hns⟩:=qc _ _ h;obtain⟨hc,h⟩:=aq h;rw[Bool.and_eq_true,List.all_eq_true] at hc;obtain⟨hfx,hcl⟩:=hc
   let T:=gA [] (Ac cur ns os++fx.tm)
   let O:=gA [] (yd cur os++fx.hp)
   let σ:Ren:=⟨O.map fun x=>(x.1,x.1),none,true⟩
   have hT:∀ k,ae T k=ae (Ac cur ns os++fx.tm) k:=fun k=>by
    show ae (gA [] _) k=_;rw[ik,if_neg (by simp [bu])]
   have hO:∀ k,ae O k=ae (yd cur os++fx.hp) k:=fun k=>by
    show ae (gA [] _) k=_;rw[ik,if_neg (by simp [bu])]
   have hnd:(aG O).Nodup:=pz _ _;have hos:∀ o∈os,o∉aG O:=fun o ho hk=>by
    have h1:ae O o=none:=by
     rw[hO,bf];have:ae (yd cur os) o=none:=by
      unfold yd;rw[fh (fun k=>!bu os k),(bO os o).2 ho]; rfl
     rw[this];have:=hfx o ho;rw[look_eq] at this;cases hl:ae fx.hp o with
     | none=>rfl
     | some v=>rw[hl] at this; cases this
    exact (jK _ _).1 h1 hk
   have hm1:σ.m.map (·.1)=aG O:=by show (O.map fun x=>(x.1,x.1)).map (·.1)=_; rw[List.map_map]; rfl
   have hm2:σ.m.map (·.2)=aG O:=by show (O.map fun x=>(x.1,x.1)).map (·.2)=_; rw[List.map_map]; rfl
   have hσ:σ.nodup:=⟨by rw[hm1]; exact hnd,by rw[hm2]; exact hnd⟩;have hsame:∀ i∈aG O,qO σ (du O) i:=fun i hi=>by
    obtain⟨y,hy,rfl⟩:=List.mem_map.1 hi;exact⟨List.mem_map.2 ⟨y,hy,rfl⟩,nq hi⟩
   unfold iI at hcl;simp only[Bool.and_eq_true,List.all_eq_true] at hcl;refine⟨_,h,nU T,du O,σ,⟨⟨hσ,rfl,rfl,la fun x hx _=>?_⟩,la fun q hq=>?_,la fun q hq=>?_⟩,?_⟩
   ·obtain⟨y,_,rfl⟩:=List.mem_map.1 hx; rfl
   ·obtain⟨y,hy,rfl⟩:=List.mem_map.1 hq;dsimp only;rw[iL];have hl:=(k9 _ _ _ hy).2;have hids:∀ i∈y.2.iK,qO σ (du O) i:=fun i hi=>hsame i ((bO _ _).1 (hcl.1 y hy i hi));unfold Ac at hl;rw[bf,bf] at hl;cases h1:ae ns y.1 with
    | some v =>
     rw[h1] at hl;have:v=y.2:=by simpa using hl
     subst this;exact hns σ (du O) rfl (fun o ho=>by rw[hm1]; exact hos o ho) (y.1,y.2) (cx h1)
    | none =>
     rw[h1] at hl;dsimp only at hl;have e1:ae (cur.tm.map fun x=>(x.1,vn os x.2)) y.1=(ae cur.tm y.1).map (vn os):=iP (vn os) cur.tm y.1;rw[e1] at hl;cases h2:ae cur.tm y.1 with
     | some v =>
      rw[h2] at hl;have hv:vn os v=y.2:=by simpa using hl
      have ht:lH fx cur y.1=v:=by unfold lH; rw[bf,h2]; rfl
      rw[ht,← hv];unfold vn at hv ⊢;cases hb:v.iK.any (bu os) with
      | true=>rw[cond_true]; exact sH _
      | false =>
       rw[hb,cond_false] at hv;rw[cond_false];rw[← hv] at hids;exact sI v hids
     | none =>
      rw[h2] at hl;have hl:ae fx.tm y.1=some y.2:=by simpa using hl
      have ht:lH fx cur y.1=y.2:=by unfold lH; rw[bf,h2]; dsimp only; rw[hl]; rfl
      rw[ht];exact sI _ hids
   ·obtain⟨y,hy,rfl⟩:=List.mem_map.1 hq;show HSub σ (un2 fx cur) (du O) (y.1,y.2.un);unfold HSub;have hk:y.1∈aG O:=mem_keys hy;rw[np hσ (hsame _ hk).1];dsimp only;have hl:=(k9 _ _ _ hy).2;have hob:obT fx cur y.1=some y.2:=by
     rw[kR,bf];rw[bf] at hl;have e1:ae (yd cur os) y.1=if !bu os y.1 then ae cur.hp y.1 else none:=fh (fun k=>!bu os k) cur.hp y.1
     rw[e1] at hl;cases hb:bu os y.1 with
     | true=>exact absurd hk (hos _ ((bO _ _).1 hb))
     | false =>
      rw[hb] at hl;simp only[Bool.not_false,if_true] at hl;exact hl
    rw[gT,hob];exact vx _ fun i hi=>hsame i ((bO _ _).1 (hcl.2 y hy i hi))
   ·refine St.ext' (fun k=>?_) (fun o=>?_)
    ·rw[iL];show (ae (nU T) k).getD .dead=_;unfold nU;rw[iP TSl.un,hT];unfold lH;dsimp only;cases ae (Ac cur ns os++fx.tm) k <;> rfl
    ·rw[gT,kR];show ae (du O) o=_;unfold du;rw[iP bI.un,hO]
  ·cases h
 ·obtain⟨hc,h⟩:=aq h;rw[Bool.and_eq_true,List.all_eq_true] at hc;exact⟨_,h,Dw hc.1 hc.2⟩
 ·cases h
theorem NH {P:Program} {o:Oper} {k:TSt->Option ρ} (hvs:Γ.vs=E.fz) {Q:St->Prop} (hk:∀ c,k c=some r->Q (un2 fx c)) (h:PW E fx o cur k=some r):tY Γ o (un2 fx cur) Q:=by
 unfold tY;unfold PW at h;have hv:inL Γ.vs o.dst=match o.dst with | some d=>bu E.fz d | none=>false:=by
  unfold inL;rw[hvs];cases o.dst with
  | none=>rfl
  | some d =>
   dsimp only;rw[Bool.eq_iff_iff,bO];simp
 rw[hv];split at h
 ·rename_i d hd;cases hb:bu E.fz d with
  | true =>
   rw[hb,cond_true] at h;rw[if_pos (by rw[hd]; exact hb)];obtain⟨c',h1,tms,hps,σ,h2,h3⟩:=NG h;exact .inr ⟨tms,hps,σ,h2,by rw[h3]; exact hk _ h1⟩
  | false =>
   rw[hb,cond_false] at h;rw[if_neg (by rw[hd]; dsimp only; rw[hb]; simp)];exact hk _ h
 ·rename_i hd;rw[if_neg (by rw[hd]; simp)];exact hk _ h
theorem NI {o:Oper} {s:St} {Q:St->Prop} (h:Q s):tY Γ o s Q:=by
 unfold tY;split
 ·exact .inl h
 ·exact h
theorem GL {P:Program} (hP:P=E.P) (hvs:Γ.vs=E.fz) (hΦ:∀ con∈E.Φ,de E.P con) (hΓ:Γ.hs=E.hs/\Γ.fz=E.zs/\Γ.mv=E.ns/\Γ.bx=E.bs) {ops:List Oper} {K:TSt->Option ρ} {Q:St->Prop} (hQ:∀ c,K c=some r->Q (un2 fx c)):∀ (l:List Oper) (cur:TSt),zk E fx ops l cur K=some r->qz P Γ ops l (un2 fx cur) Q
 | [],cur,h=>hQ cur h
 | o::rest,cur,h=>by
  subst hP;have ih:=GL (ops:=ops) rfl hvs hΦ hΓ hQ rest;have run:∀ cur:TSt,(opT E fx o.op o.dst cur fun x wr=>fg (sY cur o.dst x wr).tm fun tm=>zk E fx ops rest ⟨tm,(sY cur o.dst x wr).hp⟩ K)=some r->rf E.P Γ (un2 fx cur) o fun e=>qz E.P Γ ops rest ((un2 fx cur).app o.dst e) Q:=by
   intro cur h;obtain⟨x,wr,h1,h2⟩:=Qa hΦ hΓ h;dsimp only at h1;rw[eR] at h1;have h3:=ih _ h1;exact tr (fun e he=>by rw[he]; exact h3) h2
  unfold qz;unfold zk at h;split at h
  ·rename_i hg;refine NH (P:=E.P) hvs (fun c hc=>?_) h;rw[hg];exact run c hc
  ·rename_i g b hg;refine NI ?_;rw[hg];dsimp only;split at h
   ·rename_i d c hgt;obtain⟨c,rfl⟩:∃ q:Bool,q=c:=⟨c,rfl⟩;obtain⟨g1,g2⟩:=Ap hgt;rw[g1];show (c=b->_)/\(c = !b->_);have hk:=KY g2;cases c with
    | true =>
     rw[cond_true] at h;cases b with
     | true =>
      rw[cond_true] at h;refine⟨fun _=>?_,(fun h=>nomatch h)⟩;have:=run ⟨sX cur.tm d (tV .bool true),cur.hp⟩ h;rw[hk] at this;exact this
     | false =>
      rw[cond_false] at h;refine⟨(fun h=>nomatch h),fun _=>?_⟩;have:=ih _ h;rw[← BJ,hk] at this;exact this
    | false =>
     rw[cond_false] at h;cases b with
     | true =>
      rw[cond_true] at h;refine⟨(fun h=>nomatch h),fun _=>?_⟩;have:=ih _ h;rw[← BJ,hk] at this;exact this
     | false =>
      rw[cond_false] at h;refine⟨fun _=>?_,(fun h=>nomatch h)⟩;have:=run ⟨sX cur.tm d (tV .bool false),cur.hp⟩ h;rw[hk] at this;exact this
   ·rename_i d l hgt;obtain⟨g1,g2⟩:=Ap hgt;rw[g1];show qz E.P Γ ops rest ((un2 fx cur).app o.dst re) Q;rw[BJ];exact ih _ h
   ·cases h
end
end Go.Lad
namespace Go.Lad
open Go.RowKit
structure qS (P:Program) (it:Iter):Prop where
 enter:∀ args w,(callFunc it.f args).run P w = .ok (.enter it.f args) w
 law:∀ ol xs,it.fn ol=some xs->uf P it.f (xs.map fun x=>(it.row x).map TC.un) (fun k=>(it.at_ ol k).map bI.un)
 at0:∀ ol xs,it.fn ol=some xs->it.at_ ol 0=ol
 len:∀ ol xs,it.fn ol=some xs->∀ k,(it.at_ ol k).length=ol.length
 ids:∀ ol xs,it.fn ol=some xs->∀ k,∀ h∈it.at_ ol k,h.iK=[]
theorem K0 {α σ β:Type} {f:Nat->α->σ->Option (σ⊕β)} {xs:List α} {v0:σ} {o:σ⊕β} (h:wa f 0 xs v0=some o) :
  ∃ R:Nat->σ->Prop,R 0 v0/\(∀ k (hk:k<xs.length) v,R k v->∃ y,f k xs[k] v=some y/\(∀ v',y = .inl v'->R (k+1) v')/\(∀ b,y = .inr b->o = .inr b))/\∀ v,R xs.length v->o = .inl v:=by
 refine⟨fun k v=>wa f k (xs.drop k) v=some o,h,fun k hk v hv=>?_,fun v hv=>?_⟩
 ·have hv:wa f k (xs.drop k) v=some o:=hv;rw[List.drop_eq_getElem_cons hk] at hv;obtain⟨y,h1,h2⟩:=bind_some (show ((f k xs[k] v).bind fun y=>match y with | .inl s'=>wa f (k+1) (xs.drop (k+1)) s' | .inr b=>some (.inr b))=some o from hv);refine⟨y,h1,fun v' e=>by subst e; exact h2,fun b e=>by subst e; injection h2 with h2; exact h2.symm⟩
 ·have hv:wa f xs.length (xs.drop xs.length) v=some o:=hv;rw[List.drop_length] at hv;injection hv with hv
  exact hv.symm
theorem we:∀ {os:List Nat} {l:List (Nat×bI)} {ol:List bI},wK l os=some ol->ol.length=os.length/\∀ o,(match ae (os.zip ol) o with | some h=>ae l o=some h | none=>True)
 | [],l,ol,h=>by injection h with h; subst h; exact⟨rfl,fun o=>trivial⟩
 | o'::os,l,ol,h=>by
  unfold wK at h;split at h
  ·rename_i h' hl;split at h
   ·rename_i t ht;injection h with h
    subst h;obtain⟨h1,h2⟩:=we ht;refine⟨by simp [h1],fun o=>?_⟩;rw[List.zip_cons_cons,lS];by_cases ho:o=o'
    ·subst ho; rw[if_pos rfl]; rw[look_eq] at hl; exact hl
    ·rw[if_neg ho]; exact h2 o
   ·cases h
  ·cases h
theorem qT (os:List Nat) (ol:List bI):∀ (l:List (Nat×bI)) (o:Nat),ae (py os ol l) o=(ae l o).map fun h=>(ae (os.zip ol) o).getD h
 | [],_=>rfl
 | x::r,o=>by
  have ih:=qT os ol r o;unfold py at ih ⊢;rw[List.map_cons,lS];have e:ae (x::r) o=if o=x.1 then some x.2 else ae r o:=rfl
  rw[e,ih];by_cases h:o=x.1
  ·subst h;rw[if_pos rfl,if_pos rfl,look_eq,Option.map_some];cases ae (os.zip ol) x.1 <;> rfl
  ·rw[if_neg h,if_neg h]
theorem BK (os:List Nat) (ol:List bI) (l:List (Nat×bI)):aG (py os ol l)=aG l:=by
 unfold py aG;rw[List.map_map]; rfl
theorem K5 {α:Type} {os:List Nat} {ol:List α} (hl:ol.length=os.length) {o:Nat} (h:o∈os):ae (os.zip ol) o≠none:=by
 induction os generalizing ol with
 | nil=>cases h
 | cons x os ih =>
  cases ol with
  | nil=>cases hl
  | cons y ol =>
   rw[List.zip_cons_cons,lS];by_cases ho:o=x
   ·rw[if_pos ho]; simp
   ·rw[if_neg ho];exact ih (by simpa using hl) ((List.mem_cons.1 h).resolve_left ho)
theorem yy:∀ (ss:List CSh) (ds:List Dyn),(mQ ss ds).1.length=ss.length
 | [],_=>rfl
 | s::ss,ds=>by
  show (mQ ss (mkC s ds).2).1.length+1=ss.length+1;rw[yy ss]
def wg (l:List (Nat×SSh)):List (Nat×TSl):=l.map fun x=>(x.1,(x7 x.2 []).1)
theorem yz:∀ (l:List (Nat×SSh)) (ds:List Dyn),(∀ x∈l,Fc x.2=true)->C0 l ds=(wg l,ds)
 | [],_,_=>rfl
 | x::l,ds,h=>by
  have ih:=yz l ds fun y hy=>h y (List.mem_cons_of_mem _ hy);obtain⟨i,sh⟩:=x;have hx:=h (i,sh) List.mem_cons_self;unfold Fc at hx;split at hx
  ·rename_i o off heq;dsimp only at heq;subst heq;show (match C0 l ds with | (l,ds)=>((i,TSl.c (.v (.loc o off)))::l,ds))=_;rw[ih]; rfl
  ·cases hx
theorem Fu (l:List (Nat×SSh)):aG (wg l)=aG l:=by unfold wg aG; rw[List.map_map]; rfl
theorem yA {α:Type} {os:List Nat} {ol:List α} {o:Nat} {h:α} (hl:ae (os.zip ol) o=some h):o∈os/\h∈ol:=⟨(List.of_mem_zip (cx hl)).1,(List.of_mem_zip (cx hl)).2⟩
theorem zip_map {α β:Type} (f:α->β):∀ (os:List Nat) (ol:List α) (o:Nat),ae (os.zip (ol.map f)) o=(ae (os.zip ol) o).map f
 | [],_,_=>rfl
 | _::_,[],_=>rfl
 | x::os,y::ol,o=>by
  rw[List.map_cons,List.zip_cons_cons,List.zip_cons_cons,lS,lS,zip_map f os ol o];by_cases h:o=x
  ·rw[if_pos h,if_pos h]; rfl
  ·rw[if_neg h,if_neg h]
theorem Dx:∀ (ps:List Nat) (cs:List TC),nU (ps.zip (cs.map TSl.c))=ps.zip ((cs.map TC.un).map Slot.c)
 | [],_=>rfl
 | _::_,[]=>rfl
 | p::ps,c::cs=>by
  show (p,Slot.c c.un)::nU (ps.zip (cs.map TSl.c))=_;rw[Dx ps cs]; rfl
section
variable {fx cur:TSt} {os:List Nat} {ol:List bI} {σs:Shp} {kt kh:List Nat}
theorem Fv:aG (aT (pk cur os ol) σs kt kh).hp=aG (aT cur σs kt kh).hp:=by
 show aG ((py os ol cur.hp).filter fun x=>!bu (aG σs.hp) x.1 && bu kh x.1)=aG (cur.hp.filter fun x=>!bu (aG σs.hp) x.1 && bu kh x.1);unfold py aG;rw[List.filter_map,List.map_map]; rfl
theorem QV (h:n9 fx cur (aT cur σs kt kh) σs=true):n9 fx (pk cur os ol) (aT (pk cur os ol) σs kt kh) σs=true:=by
 unfold n9 at h ⊢;rw[Fv];rw[Bool.and_eq_true] at h ⊢;refine⟨List.all_eq_true.2 fun x hx=>?_,h.2⟩;obtain⟨y,hy,rfl⟩:=List.mem_map.1 hx;exact List.all_eq_true.1 h.1 y hy
theorem K6 (hos:∀ o∈os,bu (aG (aT cur σs kt kh).hp) o=true) (o:Nat):ae (fxK fx cur os ol σs kt kh).hp o=(ae (gZ fx cur (aT cur σs kt kh) σs).hp o).map fun h=>(ae (os.zip ol) o).getD h:=by
 unfold fxK;rw[lV,lV,iX,iX];have e:ae (pk cur os ol).hp o=(ae cur.hp o).map fun h=>(ae (os.zip ol) o).getD h:=qT os ol cur.hp o;have e2:aG (pk cur os ol).hp=aG cur.hp:=BK os ol cur.hp;rw[e,e2];cases hc : !bu (aG σs.hp) o && bu kh o with
 | true =>
  simp only[if_true];cases hl:ae cur.hp o with
  | some h=>rfl
  | none =>
   simp only[Option.map_none];cases hz:ae (os.zip ol) o with
   | none =>
    split
    ·cases ae fx.hp o <;> rfl
    ·rfl
   | some c =>
    exfalso;have h1:=hos o (yA hz).1;have h2:bu (aG (aT cur σs kt kh).hp) o=false:=(gD _ _).2 (by rw[iX,hc,if_pos rfl,hl]);rw[h2] at h1; cases h1
 | false =>
  simp only[Bool.false_eq_true,if_false];cases hz:ae (os.zip ol) o with
  | none =>
   split
   ·cases ae fx.hp o <;> rfl
   ·rfl
  | some c =>
   exfalso;have h1:=hos o (yA hz).1;have h2:bu (aG (aT cur σs kt kh).hp) o=false:=(gD _ _).2 (by rw[iX,hc]; rfl);rw[h2] at h1; cases h1
end
section
variable {E:Env} {Γ:Opt}
theorem lJ {α:Type} {b:Bool} {x:Option α} {r:α} (h:(Bool.rec none x b:Option α)=some r):b=true/\x=some r:=by
 cases b with
 | true=>exact⟨rfl,h⟩
 | false=>cases h
def rY (js:List Nat):Code->An->Bool
 | .seq a b,.seq x y=>rY js a x && rY js b y
 | .seq a b,.join _ _ _ _ x y=>js.contains (qE b) && rY js a x && rY js b y
 | .cond _ a b,.cond x y=>rY js a x && rY js b y
 | .block _ b,.one x=>rY js b x
 | .loop b,.loop _ _ _ x=>rY js b x
 | .scope b,.one x=>rY js b x
 | .rangeFunc _ _ a b,.range _ _ _ x y=>rY js a x && rY js b y
 | _,_=>true
def lf:Code->An->List (Nat×Code)
 | .seq a b,.seq x y=>lf a x++lf b y
 | .seq a b,.join _ _ _ _ x y=>lf a x++lf b y
 | .seq a b,.hand i=>[(i,.seq a b)]
 | .cond _ a b,.cond x y=>lf a x++lf b y
 | .block _ b,.one x=>lf b x
 | .loop b,.loop _ _ _ x=>lf b x
 | .scope b,.one x=>lf b x
 | .rangeFunc _ _ a b,.range _ _ _ x y=>lf a x++lf b y
 | _,_=>[]
def K7 (E:Env) (Γ:Opt) (x:Nat×Code):Prop := ∀ h,PX E.KI x.1=some h->iV x.2=false/\∀ fx cur cur',h fx cur=some cur'->OQ E.P Γ x.2 (un2 fx cur) (un2 fx cur')
theorem Fw {α:Type} {p:α->Prop} {l m:List α} (h:∀ x∈l++m,p x):∀ x∈l,p x:=fun x hx=>h x (List.mem_append_left _ hx)
theorem Fx {α:Type} {p:α->Prop} {l m:List α} (h:∀ x∈l++m,p x):∀ x∈m,p x:=fun x hx=>h x (List.mem_append_right _ hx)
theorem GM {fx2:TSt} {σs:Shp} {v:Tup σs.ps} {b:Code} {s:St} {K:St->Prop} (hj:Γ.js.contains (qE b)=true) (hs:∃ σ,Sub σ s (nU ((σs.at v).tm++fx2.tm)) (du ((σs.at v).hp++fx2.hp))) (hK:K (un2 fx2 (σs.at v))):oW Γ.js b K s:=by
 unfold oW;rw[if_pos hj];obtain⟨σ,hs⟩:=hs;exact .inr ⟨_,_,σ,hs,hK⟩
theorem kI [Fuel] (hIt:∀ it∈E.its,qS E.P it) (hvs:Γ.vs=E.fz) (hΦ:∀ con∈E.Φ,de E.P con) (hΓ:Γ.hs=E.hs/\Γ.fz=E.zs/\Γ.mv=E.ns/\Γ.bx=E.bs):∀ (c:Code) (an:An) (fx:TSt) (ρ:Type) (dq:DecidableEq ρ) (cur:TSt) (K:AEx->TSt->Option ρ) (r:ρ) (Q:AEx->St->Prop),(∀ x∈lf c an,K7 E Γ x)->rY Γ.js c an=true->den E c an fx ρ dq cur K=some r->(∀ e c,K e c=some r->Q e (un2 fx c))->gv E.P Γ c (un2 fx cur) Q
 | .skip,an,fx,ρ,dq,cur,K,r,Q,hH,hj,h,hQ=>hQ _ _ h
 | .region id ops dr,an,fx,ρ,dq,cur,K,r,Q,hH,hj,h,hQ=>GL rfl hvs hΦ hΓ (fun c hc=>hQ _ _ hc) _ _ h
 | .seq a b,an,fx,ρ,dq,cur,K,r,Q,hH,hj,h,hQ=>by
  cases an with
  | seq x y =>
   unfold rY at hj;rw[Bool.and_eq_true] at hj;refine .inl (kI hIt hvs hΦ hΓ a x fx ρ dq cur _ r _ (Fw hH) hj.1 h fun e c hc=>?_);cases e with
   | normal =>
    have hb:=kI hIt hvs hΦ hΓ b y fx ρ dq c K r Q (Fx hH) hj.2 hc hQ;show oW Γ.js b (fun s=>gv E.P Γ b s Q) _;unfold oW;split
    ·exact .inl hb
    ·exact hb
   | exit i=>exact hQ _ _ hc
   | ret=>exact hQ _ _ hc
  | join σs kt kh pure x y =>
   unfold rY at hj;rw[Bool.and_eq_true,Bool.and_eq_true] at hj;obtain⟨⟨hj1,hj2⟩,hj3⟩:=hj;cases pure with
   | true =>
    obtain⟨hc,h⟩:=lJ h;rw[Bool.and_eq_true] at hc;obtain⟨hcl,hdr⟩:=hc;obtain⟨v,h1,h2⟩:=bind_some h;have hb:=kI hIt hvs hΦ hΓ b y fx ρ _ _ K r Q (Fx hH) hj3 h2 hQ;rw[rX hdr] at hb;have ha:=kI hIt hvs hΦ hΓ a x _ _ _ _ _ v (Gd (oW Γ.js b fun s=>gv E.P Γ b s Q) Q) (Fw hH) hj2 h1 fun e c hc=>by
     cases e with
     | normal =>
      obtain⟨hk,hc⟩:=lJ hc;obtain⟨v',hv,hs⟩:=nr hc;injection hv with hv
      subst hv;exact GM hj1 (hs (uy hcl hk)) hb
     | exit i=>cases hc
     | ret=>cases hc
    rw[GD hdr] at ha;exact .inl ha
   | false =>
    obtain⟨hc,h⟩:=lJ h;rw[Bool.and_eq_true] at hc;obtain⟨hcl,hdr⟩:=hc;obtain⟨v,h1,h2⟩:=bind_some h;have ha:=kI hIt hvs hΦ hΓ a x _ _ _ _ _ v (Gd (oW Γ.js b fun s=>gv E.P Γ b s Q) Q) (Fw hH) hj2 h1 fun e c hc=>by
     have out:∀ e',e'=e->((K e' ⟨c.tm++(aT cur σs kt kh).tm,c.hp++(aT cur σs kt kh).hp⟩).map Sum.inr=some v)->Q e' (un2 (gZ fx cur (aT cur σs kt kh) σs) c):=fun e' _ hc=>by
      rw[Option.map_eq_some_iff] at hc;obtain⟨r',hr,rfl⟩:=hc;dsimp only at h2;injection h2 with h2
      subst h2;rw[← rX hdr];exact hQ _ _ hr
     cases e with
     | normal =>
      obtain⟨hk,hc⟩:=lJ hc;obtain⟨v',hv,hs⟩:=nr hc;injection hv with hv
      subst hv;dsimp only at h2;have hb:=kI hIt hvs hΦ hΓ b y fx ρ _ _ K r Q (Fx hH) hj3 h2 hQ;rw[rX hdr] at hb;exact GM hj1 (hs (uy hcl hk)) hb
     | exit i=>exact out _ rfl hc
     | ret=>exact out _ rfl hc
    rw[GD hdr] at ha;exact .inl ha
  | hand i =>
   unfold den at h;dsimp only at h;split at h
   ·rename_i hd hi;obtain⟨cur',h1,h2⟩:=bind_some h;obtain⟨h3,h4⟩:=hH (i,.seq a b) List.mem_cons_self hd hi;exact .inr ⟨h3,_,h4 fx cur cur' h1,hQ _ _ h2⟩
   ·cases h
  | no=>cases h
  | cond _ _=>cases h
  | loop _ _ _ _=>cases h
  | one _=>cases h
  | range _ _ _ _ _=>cases h
 | .cond c a b,an,fx,ρ,dq,cur,K,r,Q,hH,hj,h,hQ=>by
  cases an with
  | cond x y =>
   unfold rY at hj;rw[Bool.and_eq_true] at hj;unfold den at h;dsimp only at h;show CK ((un2 fx cur).ev c) _ _;rw[fJ];split at h
   ·rename_i t heq;obtain⟨t,rfl⟩:∃ q:Bool,q=t:=⟨t,rfl⟩;rw[heq];show (t=true->_)/\(t=false->_);cases t with
    | true=>exact⟨fun _=>kI hIt hvs hΦ hΓ a x fx ρ dq cur K r Q (Fw hH) hj.1 h hQ,(fun h=>nomatch h)⟩
    | false=>exact⟨(fun h=>nomatch h),fun _=>kI hIt hvs hΦ hΓ b y fx ρ dq cur K r Q (Fx hH) hj.2 h hQ⟩
   ·rename_i pos t l heq;rw[heq];cases pos with
    | true =>
     obtain⟨h1,h2⟩:=xT (show pw l (den E a x fx ρ dq cur K) (den E b y fx ρ dq cur K)=some r from h);show (l.map (enc t)=[]->_)/\_;exact⟨fun hl=>kI hIt hvs hΦ hΓ a x fx ρ dq cur K r Q (Fw hH) hj.1 (h2 (List.map_eq_nil_iff.1 hl)) hQ,kI hIt hvs hΦ hΓ b y fx ρ dq cur K r Q (Fx hH) hj.2 h1 hQ⟩
    | false =>
     obtain⟨h1,h2⟩:=xT (show pw l (den E b y fx ρ dq cur K) (den E a x fx ρ dq cur K)=some r from h);show _/\(l.map (enc t)=[]->_);exact⟨kI hIt hvs hΦ hΓ a x fx ρ dq cur K r Q (Fw hH) hj.1 h1 hQ,fun hl=>kI hIt hvs hΦ hΓ b y fx ρ dq cur K r Q (Fx hH) hj.2 (h2 (List.map_eq_nil_iff.1 hl)) hQ⟩
   ·cases h
  | no=>cases h
  | hand _=>cases h
  | seq _ _=>cases h
  | join _ _ _ _ _ _=>cases h
  | loop _ _ _ _=>cases h
  | one _=>cases h
  | range _ _ _ _ _=>cases h
 | .block id b,an,fx,ρ,dq,cur,K,r,Q,hH,hj,h,hQ=>by
  cases an with
  | one x =>
   refine kI hIt hvs hΦ hΓ b x fx ρ dq cur _ r _ hH hj h fun e c hc=>?_;cases e with
   | normal=>exact hQ _ _ hc
   | exit i =>
    show (if i=id then Q .normal (un2 fx c) else Q (.exit i) (un2 fx c));have hc:(Bool.rec (K (.exit i) c) (K .normal c) (Nat.beq i id):Option ρ)=some r:=hc;rw[eE] at hc;by_cases hi:i=id
    ·rw[if_pos hi];rw[decide_eq_true hi] at hc;exact hQ _ _ hc
    ·rw[if_neg hi];rw[decide_eq_false hi] at hc;exact hQ _ _ hc
   | ret=>exact hQ _ _ hc
  | no=>cases h
  | hand _=>cases h
  | seq _ _=>cases h
  | join _ _ _ _ _ _=>cases h
  | loop _ _ _ _=>cases h
  | cond _ _=>cases h
  | range _ _ _ _ _=>cases h
 | .loop b,an,fx,ρ,dq,cur,K,r,Q,hH,hj,h,hQ=>by
  cases an with
  | loop σs kt kh x =>
   obtain⟨hc,h⟩:=lJ h;rw[Bool.and_eq_true] at hc;obtain⟨hcl,hdr⟩:=hc;obtain⟨v0,h1,hs0⟩:=nr h;obtain⟨σ0,hs0⟩:=hs0 (GC hcl);refine Pu _ (fun v=>nU ((σs.at v).tm++(gZ fx cur (aT cur σs kt kh) σs).tm)) (fun v=>du ((σs.at v).hp++(gZ fx cur (aT cur σs kt kh) σs).hp)) v0 r (CT h1) σ0 hs0 fun v o ho hr=>?_;refine kI hIt hvs hΦ hΓ b x _ _ _ _ _ o (J1 _ _ (fun y=>o = .inl y) Q) hH hj ho fun e c hc=>?_;have out:∀ e',((K e' ⟨c.tm++(aT cur σs kt kh).tm,c.hp++(aT cur σs kt kh).hp⟩).map Sum.inr=some o)->Q e' (un2 (gZ fx cur (aT cur σs kt kh) σs) c):=fun e' hc=>by
    rw[Option.map_eq_some_iff] at hc;obtain⟨r',hr',rfl⟩:=hc;have:=hr r' rfl;subst this;rw[← rX hdr];exact hQ _ _ hr'
   cases e with
   | normal =>
    obtain⟨hk,hc⟩:=lJ hc;obtain⟨v',hv,hs⟩:=nr hc;injection hv with hv
    obtain⟨σ,hs⟩:=hs (uy hcl hk);exact⟨v',σ,hv.symm,hs⟩
   | exit i=>exact out _ hc
   | ret=>exact out _ hc
  | no=>cases h
  | hand _=>cases h
  | seq _ _=>cases h
  | join _ _ _ _ _ _=>cases h
  | one _=>cases h
  | cond _ _=>cases h
  | range _ _ _ _ _=>cases h
 | .exit id,an,fx,ρ,dq,cur,K,r,Q,hH,hj,h,hQ=>hQ _ _ h
 | .ret,an,fx,ρ,dq,cur,K,r,Q,hH,hj,h,hQ=>hQ _ _ h
 | .scope b,an,fx,ρ,dq,cur,K,r,Q,hH,hj,h,hQ=>by
  cases an with
  | one x=>exact kI hIt hvs hΦ hΓ b x fx ρ dq cur K r Q hH hj h hQ
  | no=>cases h
  | hand _=>cases h
  | seq _ _=>cases h
  | join _ _ _ _ _ _=>cases h
  | loop _ _ _ _=>cases h
  | cond _ _=>cases h
  | range _ _ _ _ _=>cases h
 | .rangeFunc g ps a b,an,fx,ρ,dq,cur,K,r,Q,hH,hj,h,hQ=>by
  cases an with
  | range σs kt kh x y =>
   unfold rY at hj;rw[Bool.and_eq_true] at hj;unfold den at h;dsimp only at h;split at h
   rotate_left
   ·cases h
   rename_i tg;split at h
   rotate_left
   ·cases h
   rename_i f2 os hlook;split at h
   rotate_left
   ·cases h
   rename_i ol hol;split at h
   rotate_left
   ·cases h
   rename_i it hit;obtain⟨hchk,h⟩:=lJ h;obtain⟨xs,hxs,h⟩:=bind_some h;obtain⟨v0,h1,hs0⟩:=nr h;obtain⟨o,ho,hfin⟩:=bind_some h1;obtain⟨R,r0,r1,r2⟩:=K0 ho;have hmem:=List.mem_of_find?_eq_some hit;have hf2:f2=2 * it.f:=by
    have:=List.find?_some hit;rw[eE,decide_eq_true_eq] at this;exact this.symm
   subst hf2;have iok:=hIt it hmem;unfold Gp at hchk;simp only[Bool.and_eq_true] at hchk;obtain⟨⟨⟨⟨⟨⟨hcl,hdr⟩,htm⟩,hlen⟩,hos⟩,hnod⟩,hdead⟩:=hchk;rw[List.all_eq_true] at hos hdead;obtain⟨htm,htg⟩:=htm;rw[List.all_eq_true] at htm;simp only[Bool.and_eq_true] at htm;obtain⟨hol1,hol2⟩:=we hol;have hl0:∀ k,(it.at_ ol k).length=os.length:=fun k=>(iok.len ol xs hxs k).trans hol1;have hat:∀ v,(σs.at v).tm=wg σs.tm:=fun v=>by
    unfold Shp.at Shp.mk';rw[yz _ _ fun x hx=>(htm x hx).1]
   have hfx:∀ v,σs.at v=⟨wg σs.tm,(σs.at v).hp⟩:=fun v=>by rw[← hat v]
   have hkeys:∀ v,aG (σs.at v).hp=aG σs.hp:=fun v=>by
    unfold Shp.at Shp.mk';rw[yz _ _ fun x hx=>(htm x hx).1];exact oM _ _
   have hfl:=fun k=>K6 (fx:=fx) (cur:=cur) (os:=os) (ol:=it.at_ ol k) (σs:=σs) (kt:=kt) (kh:=kh) hos;have hclK:∀ k,iI (fxK fx cur os (it.at_ ol k) σs kt kh)=true:=fun k=>by
    unfold iI at hcl ⊢;simp only[Bool.and_eq_true,List.all_eq_true] at hcl ⊢;have hkey:∀ i,bu (aG (gZ fx cur (aT cur σs kt kh) σs).hp) i=true->bu (aG (fxK fx cur os (it.at_ ol k) σs kt kh).hp) i=true:=fun i hi=>by
     cases hc:bu (aG (fxK fx cur os (it.at_ ol k) σs kt kh).hp) i with
     | true=>rfl
     | false =>
      have h2:=(gD _ _).1 hc;rw[hfl k i,Option.map_eq_none_iff] at h2;rw[(gD _ _).2 h2] at hi; cases hi
    refine⟨fun z hz i hi=>hkey i (hcl.1 z hz i hi),fun z hz i hi=>?_⟩;have h2:=vA hz;have h3:=hfl k z.1;unfold fxK at h3;rw[h2] at h3;cases hz0:ae (gZ fx cur (aT cur σs kt kh) σs).hp z.1 with
    | none=>rw[hz0] at h3; cases h3
    | some h0 =>
     rw[hz0,Option.map_some] at h3;injection h3 with h3
     cases hzz:ae (os.zip (it.at_ ol k)) z.1 with
     | some c =>
      rw[hzz] at h3;have h3:z.2=c:=h3;rw[h3,iok.ids ol xs hxs k c (yA hzz).2] at hi;cases hi
     | none =>
      rw[hzz] at h3;have h3:z.2=h0:=h3;exact hkey i (hcl.2 (z.1,h0) (cx hz0) i (by rw[h3] at hi; exact hi))
   have hdrK:∀ k,n9 fx (pk cur os (it.at_ ol k)) (aT (pk cur os (it.at_ ol k)) σs kt kh) σs=true:=fun k=>QV hdr;have hnil:∀ k (c:TSt),un2 fx ⟨c.tm++(aT (pk cur os (it.at_ ol k)) σs kt kh).tm,c.hp++(aT (pk cur os (it.at_ ol k)) σs kt kh).hp⟩=un2 (fxK fx cur os (it.at_ ol k) σs kt kh) c:=fun k c=>rX (hdrK k);show ES E.P (gv E.P Γ a) (gv E.P Γ b) (.tmp tg) ps.toList (ps.toList++gE a++gE b) (un2 fx cur) Q;refine⟨tg,it.f,os,xs.map fun x=>(it.row x).map TC.un,fun k=>(it.at_ ol k).map bI.un,Tup σs.ps,R,nU (wg σs.tm++(gZ fx cur (aT cur σs kt kh) σs).tm),fun k v=>du ((σs.at v).hp++(fxK fx cur os (it.at_ ol k) σs kt kh).hp),
    rfl,iok.law ol xs hxs,?_,fun k=>by rw[List.length_map]; exact hl0 k,kn _ hnod,iok.enter,fun z hz=>?_,fun q hq ht=>?_,fun k v=>?_,?_,fun k hk v hRk=>?_,fun v hRv=>?_⟩
   ·rw[look_eq] at hlook;unfold nU;rw[iP TSl.un,bf];have hno:ae (wg σs.tm) tg=none:=(gD _ _).1 (by rw[Fu]; simpa using htg);rw[hno,hlook]; rfl
   ·obtain⟨row,_,rfl⟩:=List.mem_map.1 hz;rw[List.length_map];rw[eE,decide_eq_true_eq] at hlen;unfold Iter.row;rw[yy]; exact hlen
   ·obtain⟨z,hz,rfl⟩:=List.mem_map.1 hq;rcases List.mem_append.1 hz with hz | hz
    ·obtain⟨x0,hx0,rfl⟩:=List.mem_map.1 hz;have h2:=(htm x0 hx0).2;rw[(bO _ _).2 ht] at h2; cases h2
    have:=hdead z hz;rw[(bO _ _).2 ht] at this;show z.2.un = .dead;rw[vy (show z.2.vm=true by simpa using this)]; rfl
   ·funext i
    have hun:∀ k,ae (du ((σs.at v).hp++(fxK fx cur os (it.at_ ol k) σs kt kh).hp)) i=(match ae (σs.at v).hp i with | some x=>some x | none=>ae (fxK fx cur os (it.at_ ol k) σs kt kh).hp i).map bI.un:=fun k=>by
     unfold du;rw[iP bI.un,bf];cases ae (σs.at v).hp i <;> rfl
    unfold rh;dsimp only;rw[hun k,hun 0,zip_map,hfl k i,hfl 0 i];cases hz:ae (os.zip (it.at_ ol k)) i with
    | some c =>
     have hio:=(yA hz).1;have hno:ae (σs.at v).hp i=none:=by
      have h1:=hos i hio;refine (gD _ _).1 ?_;rw[hkeys];cases hc:bu (aG σs.hp) i with
      | false=>rfl
      | true =>
       have h2:bu (aG (aT cur σs kt kh).hp) i=false:=(gD _ _).2 (by rw[iX,hc]; rfl);rw[h2] at h1; cases h1
     rw[hno];have hyes:ae (gZ fx cur (aT cur σs kt kh) σs).hp i≠none:=by
      rw[lV];cases hkk:ae (aT cur σs kt kh).hp i with
      | some _=>simp
      | none =>
       have h1:=hos i hio;rw[(gD _ _).2 hkk] at h1; cases h1
     cases hll:ae (gZ fx cur (aT cur σs kt kh) σs).hp i with
     | none=>exact absurd hll hyes
     | some h0=>rfl
    | none =>
     have hz0:ae (os.zip (it.at_ ol 0)) i=none:=by
      cases hz0:ae (os.zip (it.at_ ol 0)) i with
      | none=>rfl
      | some c=>exact absurd hz (K5 (hl0 k) (yA hz0).1)
     rw[hz0];rfl
   ·obtain⟨σ,hσ⟩:=hs0 (GC (cur:=pk cur os (it.at_ ol 0)) (hclK 0));refine⟨v0,σ,r0,?_⟩;have e:un2 fx (pk cur os (it.at_ ol 0))=un2 fx cur:=St.ext' (fun _=>rfl) fun i=>by
     rw[gT,gT,kR,kR,bf,bf];have e2:ae (pk cur os (it.at_ ol 0)).hp i=ae cur.hp i:=by
      show ae (py os (it.at_ ol 0) cur.hp) i=_;rw[qT,iok.at0 ol xs hxs];have h2:=hol2 i;cases hz:ae (os.zip ol) i with
      | none=>cases ae cur.hp i <;> rfl
      | some c =>
       rw[hz] at h2;rw[show ae cur.hp i=some c from h2]; rfl
     rw[e2]
    rw[e,hat v0] at hσ;exact hσ
   ·rw[List.length_map] at hk;obtain⟨yv,hy,hy1,hy2⟩:=r1 k hk v hRk;have est:oy (ps.toList.zip (((xs.map fun x=>(it.row x).map TC.un)[k]'(by rw[List.length_map]; exact hk)).map Slot.c)++nU (wg σs.tm++(gZ fx cur (aT cur σs kt kh) σs).tm)) (du ((σs.at v).hp++(fxK fx cur os (it.at_ ol k) σs kt kh).hp)) =
      un2 (fxK fx cur os (it.at_ ol k) σs kt kh) ⟨ps.toList.zip ((it.row xs[k]).map TSl.c)++(σs.at v).tm,(σs.at v).hp⟩:=by
     unfold un2;rw[List.getElem_map,← Dx,hat v];unfold nU;rw[← List.map_append,List.append_assoc]; rfl
    rw[est];refine kI hIt hvs hΦ hΓ a x _ _ _ _ _ yv _ (Fw hH) hj.1 hy fun e c hc=>?_;cases e with
    | exit i=>cases hc
    | ret=>cases hc
    | normal =>
     refine kI hIt hvs hΦ hΓ b y _ _ _ _ _ yv _ (Fx hH) hj.2 hc fun e c hc=>?_;have hdd:∀ t,t∈ps.toList++gE a++gE b->((ae (fxK fx cur os (it.at_ ol k) σs kt kh).tm t).getD .dead)=TSl.dead:=fun t ht=>by
      cases hl:ae (fxK fx cur os (it.at_ ol k) σs kt kh).tm t with
      | none=>rfl
      | some z =>
       have:=hdead _ (cx (show ae (gZ fx cur (aT cur σs kt kh) σs).tm t=some z from hl));rw[(bO _ _).2 ht] at this;rw[Option.getD_some,vy (show z.vm=true by simpa using this)]
     have out:∀ e',((K e' ⟨(c.tm.filter fun x=>!bu (ps.toList++gE a++gE b) x.1)++(aT (pk cur os (it.at_ ol k)) σs kt kh).tm,c.hp++(aT (pk cur os (it.at_ ol k)) σs kt kh).hp⟩).map Sum.inr:Option (Tup σs.ps⊕ρ))=some yv->Q e' ((un2 (fxK fx cur os (it.at_ ol k) σs kt kh) c).xL (ps.toList++gE a++gE b)):=fun e' hc=>by
      rw[Option.map_eq_some_iff] at hc;obtain⟨r',hr',rfl⟩:=hc;have:=hy2 r' rfl;subst this;injection hfin with hfin
      subst hfin;have h2:=hQ _ _ hr';rw[hnil k ⟨c.tm.filter fun x=>!bu (ps.toList++gE a++gE b) x.1,c.hp⟩] at h2;have e:(un2 (fxK fx cur os (it.at_ ol k) σs kt kh) c).xL (ps.toList++gE a++gE b)=un2 (fxK fx cur os (it.at_ ol k) σs kt kh) ⟨c.tm.filter fun x=>!bu (ps.toList++gE a++gE b) x.1,c.hp⟩:=St.ext' (fun t=>by
       show (if t∈ps.toList++gE a++gE b then Slot.dead else (un2 _ c).tm t)=_;rw[iL,iL];unfold lH;rw[bf,bf,fh (fun k=>!bu (ps.toList++gE a++gE b) k)];by_cases ht:t∈ps.toList++gE a++gE b
       ·rw[if_pos ht,(bO _ _).2 ht];show _=((ae (fxK fx cur os (it.at_ ol k) σs kt kh).tm t).getD .dead).un;rw[hdd t ht]; rfl
       ·have hf:bu (ps.toList++gE a++gE b) t=false:=by
         cases hh:bu (ps.toList++gE a++gE b) t with
         | false=>rfl
         | true=>exact absurd ((bO _ _).1 hh) ht
        rw[if_neg ht,hf]; rfl) (fun _=>rfl)
      rw[e]; exact h2
     cases e with
     | normal =>
      obtain⟨hk2,hc⟩:=lJ hc;obtain⟨v',hv,hs⟩:=nr hc;injection hv with hv
      obtain⟨σ,hs⟩:=hs (uy (cur:=pk cur os (it.at_ ol k)) (hclK k) hk2);rw[hat v'] at hs;exact⟨v',σ,hy1 v' hv.symm,hs⟩
     | exit i=>exact out _ hc
     | ret=>exact out _ hc
   ·have hRv':R xs.length v:=by rw[List.length_map] at hRv; exact hRv
    have ho2:=r2 v hRv';subst ho2;have h2:=hQ _ _ hfin;rw[hnil xs.length (σs.at v)] at h2;rw[List.length_map];unfold un2 at h2;rw[hat v] at h2;exact h2
  | no=>cases h
  | hand _=>cases h
  | seq _ _=>cases h
  | join _ _ _ _ _ _=>cases h
  | loop _ _ _ _=>cases h
  | one _=>cases h
  | cond _ _=>cases h
 | .label _,an,fx,ρ,dq,cur,K,r,Q,hH,hj,h,hQ=>by cases h
 | .goto _,an,fx,ρ,dq,cur,K,r,Q,hH,hj,h,hQ=>by cases h
 | .refuse _,an,fx,ρ,dq,cur,K,r,Q,hH,hj,h,hQ=>by cases h
end
end Go.Lad
namespace Go.Lad
open Go.RowKit
theorem Ar:∀ (as:List TSl) (i:Nat),qG i (as.map TSl.un)=nU (Ij i as)
 | [],_=>rfl
 | x::as,i=>by
  show (i,x.un)::qG (i+1) (as.map TSl.un)=(i,x.un)::nU (Ij (i+1) as);rw[Ar as]
theorem Dy:∀ (ss:List SSh) (ds:List Dyn),(wB ss ds).1.length=ss.length
 | [],_=>rfl
 | s::ss,ds=>by
  show (wB ss (x7 s ds).2).1.length+1=ss.length+1;rw[Dy ss]
theorem Dz:∀ (l:List CSh) (i:Nat) (ds:List Dyn),C0 (KH i (l.map .c)) ds=(vo i (mQ l ds).1,(mQ l ds).2)
 | [],_,_=>rfl
 | c::l,i,ds=>by
  show (match mkC c ds with | (y,ds)=>match C0 (KH (i+1) (l.map .c)) ds with | (l,ds)=>((i,TSl.c y)::l,ds))=_;cases hc:mkC c ds with
  | mk y ds' =>
   dsimp only;rw[Dz l (i+1) ds'];show _=(vo i (match mkC c ds with | (y,ds)=>match mQ l ds with | (l,ds)=>(y::l,ds)).1,(match mkC c ds with | (y,ds)=>match mQ l ds with | (l,ds)=>(y::l,ds)).2);rw[hc];rfl
theorem GN:∀ (cs:List TC) (i:Nat),nU (vo i cs)=((cs.map TC.un).zipIdx i).map fun x=>(x.2,Slot.c x.1)
 | [],_=>rfl
 | c::cs,i=>by
  show (i,Slot.c c.un)::nU (vo (i+1) cs)=_;rw[GN cs]; rfl
theorem As:∀ (cs:List TC) (i t:Nat),ae (vo i cs) t=if i<=t then (cs[t-i]?).map TSl.c else none
 | [],i,t=>by simp [vo,ae]
 | c::cs,i,t=>by
  have e:ae (vo i (c::cs)) t=if t=i then some (TSl.c c) else ae (vo (i+1) cs) t:=rfl
  rw[e];by_cases h:t=i
  ·subst h; simp
  ·rw[if_neg h,As cs (i+1) t];by_cases h2:i<=t
   ·rw[if_pos (by omega),if_pos h2,show t-i=(t-(i+1))+1 by omega,List.getElem?_cons_succ]
   ·rw[if_neg (by omega),if_neg h2]
section
variable {P:Program} {kin:List (Nat×bI)} {c:TSt}
theorem NJ {rv:ResultVar} {t:TC} (h:Nh P ⟨c.tm,c.hp++kin⟩ rv=some t):vc P (un2 ⟨[],kin⟩ c) rv=some t.un:=by
 cases rv with
 | tmp k =>
  unfold Nh at h;dsimp only at h;rw[look_eq] at h;show (match (un2 ⟨[],kin⟩ c).tm k with | .c c=>some c | _=>none)=_;rw[iL];unfold lH;rw[List.append_nil];cases hl:ae c.tm k with
  | none=>rw[hl] at h; cases h
  | some v =>
   rw[hl] at h;cases v with
   | c x=>simp only[Option.some.injEq] at h; subst h; rfl
   | dead=>cases h
   | t l=>cases h
 | cell k ty =>
  unfold Nh at h;dsimp only at h;rw[look_eq] at h;cases hl:ae c.tm k with
  | none=>rw[hl] at h; cases h
  | some v =>
   rw[hl] at h;split at h
   ·rename_i o off heq;injection heq with heq
    split at h
    ·rename_i bt cs n ho hn;rw[look_eq] at ho;have h1:(un2 ⟨[],kin⟩ c).tm k = .c (.v (.loc o off)):=by
      rw[iL];unfold lH;rw[List.append_nil,hl,heq]; rfl
     have h2:(un2 ⟨[],kin⟩ c).hp o=some (.box bt (cs.map TL.un)):=by
      rw[gT,kR];show (ae (c.hp++kin) o).map bI.un=_;rw[ho]; rfl
     unfold vc;dsimp only;rw[h1];dsimp only;rw[h2,hn];exact uj h
    ·cases h
   ·cases h
theorem DA:∀ (rs:List ResultVar) (cs:List TC),C7 P ⟨c.tm,c.hp++kin⟩ rs=some cs->qF P (un2 ⟨[],kin⟩ c) rs=some (cs.map TC.un)
 | [],cs,h=>by
  simp only[C7,Option.some.injEq] at h;subst h; rfl
 | rv::rs,cs,h=>by
  unfold C7 at h;split at h
  ·rename_i t l h1 h2;simp only[Option.some.injEq] at h;subst h;unfold qF;rw[NJ h1,DA rs l h2]; rfl
  ·cases h
theorem yB {α:Type} {l:List (Nat×α)} (h:(aG l).Nodup) {x:Nat×α} (hx:x∈l):ae l x.1=some x.2:=dh h hx
theorem GO {rs:List ResultVar} {out:RSh} {ig:List (Nat×OSh)} {qs:List Ty} {r:Tup qs} (hcl:iI ⟨[],kin⟩=true) (h:PY P rs kin out ig qs c=some r) :
  J0 P rs (un2 ⟨[],kin⟩ c) (BE out (mQ out.eF (lG qs r)).1) (du ((pj ig (mQ out.eF (lG qs r)).2).1++kin)):=by
 unfold PY at h;split at h
 ·rename_i cs hcs;obtain⟨hk,h⟩:=lJ h;simp only[Bool.and_eq_true] at hk;obtain⟨⟨⟨hk1,hk2⟩,hk3⟩,hk4⟩:=hk;rw[eE,decide_eq_true_eq] at hk3;obtain⟨r',hr,hs⟩:=nr h;injection hr with hr
  subst hr;unfold rQ at hk1;simp only[Bool.and_eq_true,List.all_eq_true,Bool.or_eq_true] at hk1;have hkept:∀ x∈kin,obT ⟨[],kin⟩ ⟨vo 0 cs,c.hp⟩ x.1=some x.2:=by
   intro x hx;rw[kR];dsimp only;rw[bf];cases hl:ae c.hp x.1 with
   | none=>exact yB (kn _ hk2) hx
   | some v =>
    exfalso;rcases hk1.2 _ (cx hl) with h1 | h1
    ·cases h1
    ·dsimp only at h1;rw[look_eq,yB (kn _ hk2) hx] at h1;cases h1
  obtain⟨σ,hs⟩:=hs ⟨(fun x hx=>nomatch hx),hkept,hcl⟩;unfold J0;rw[DA rs cs hcs];dsimp only;have hst:un2 ⟨[],kin⟩ ⟨vo 0 cs,c.hp⟩=CN (cs.map TC.un) (un2 ⟨[],kin⟩ c).hp:=by
   refine St.ext' (fun k=>?_) (fun o=>?_)
   ·rw[iL];unfold lH;dsimp only;rw[List.append_nil,As,if_pos (Nat.zero_le _),Nat.sub_zero];show _=(match (cs.map TC.un)[k]? with | some c=>Slot.c c | none=>.dead);rw[List.getElem?_map];cases cs[k]? <;> rfl
   ·rw[gT];show _=(un2 ⟨[],kin⟩ c).hp o;rw[gT]; rfl
  rw[hst] at hs;have hat:(Shp.at ⟨KH 0 (out.eF.map .c),ig,qs⟩ r':TSt)=⟨vo 0 (mQ out.eF (lG qs r')).1,(pj ig (mQ out.eF (lG qs r')).2).1⟩:=by
   unfold Shp.at Shp.mk';dsimp only;rw[Dz]
  rw[hat] at hs;dsimp only at hs;rw[List.append_nil] at hs;have hlen:=yy out.eF (lG qs r')
  revert hs hk3 hk4 hlen
  generalize (mQ out.eF (lG qs r')).1=cs';intro hk4 hk3 hs hlen;cases out with
  | one c0 =>
   have:∃ y,cs'=[y]:=by
    cases cs' with
    | nil=>cases hlen
    | cons y l=>cases l with
     | nil=>exact⟨y,rfl⟩
     | cons _ _=>simp [RSh.eF] at hlen
   obtain⟨y,rfl⟩:=this;refine⟨trivial,?_,σ,hs⟩;rw[List.length_map,hk3]; rfl
  | tup l =>
   have e:BE (.tup l) cs' = .tup (cs'.map TC.un):=by unfold BE; split <;> first | (rename_i heq; cases heq; done) | rfl
   rw[e];have hl1:l.length≠1:=fun e=>by
    have hk4:(!Nat.beq l.length 1)=true:=hk4;rw[e] at hk4; cases hk4
   refine⟨?_,?_,σ,?_⟩
   ·show (cs'.map TC.un).length≠1;rw[List.length_map,hlen]; exact hl1
   ·show (cs.map TC.un).length=(cs'.map TC.un).length;rw[List.length_map,List.length_map,hk3,hlen]
   ·show Sub σ _ ((cs'.map TC.un).zipIdx.map fun x=>(x.2,Slot.c x.1)) _;rw[← GN cs' 0];exact hs
 ·cases h
end
def uB (E:Env) (con:Con) (fn:Func) (an:An):Bool :=
 (match fn.body with | some c=>gz { js:=E.js,hs:=E.hs,vs:=E.fz,fz:=E.zs,mv:=E.ns,bx:=E.bs,nt:=fn.ntmps } fn.ntmps c && rY E.js c an | none=>false) && Nat.ble con.ain.length fn.ntmps && mj E.P con.f
def uC (E:Env) (fn:Func) (an:An):Prop := ∀ c,fn.body=some c->∀ x∈lf c an,K7 E { js:=E.js,hs:=E.hs,vs:=E.fz,fz:=E.zs,mv:=E.ns,bx:=E.bs,nt:=fn.ntmps } x
theorem uC.nil {E:Env} {fn:Func} {an:An} (h:E.KI=[]):uC E fn an:=fun _ _ _ _ hd h2=>by rw[h] at h2; cases h2
theorem Qb [Fuel] {E:Env} {con:Con} {fn:Func} {an:An} (hm:E.P.follows .mixedOrders=true) (hf:E.P.funcs[con.f]?=some fn) (hk:uB E con fn an=true) (hΦ:∀ k∈E.Φ,de E.P k) (hIt:∀ it∈E.its,qS E.P it)
  (hHd:uC E fn an) (hrun:∀ x,fnT E fn an con.ain con.kin con.hin con.ps con.out con.ig con.qs x=con.fn x):de E.P con:=by
 unfold uB at hk;simp only[Bool.and_eq_true,jR,decide_eq_true_eq] at hk;obtain⟨⟨k0,k3⟩,k4⟩:=hk;refine⟨k4,fun x r hr=>?_⟩;rw[← hrun] at hr;unfold fnT at hr;split at hr
 ·rename_i c hb;rw[hb] at k0;dsimp only at k0;rw[Bool.and_eq_true] at k0;obtain⟨k1,k2⟩:=k0;dsimp only at hr;obtain⟨hcl,hr⟩:=lJ hr;have hlen:(con.spec x r).args.length<=fn.ntmps:=by
   show ((con.argsAt x).1.map TSl.un).length<=_;rw[List.length_map];show (wB con.ain (lG con.ps x)).1.length<=_;rw[Dy]; exact k3
  refine zj (Γ:={ js:=E.js,hs:=E.hs,vs:=E.fz,fz:=E.zs,mv:=E.ns,bx:=E.bs,nt:=fn.ntmps }) rfl hm hf hb k1 hlen ?_;have hst:st0 (con.spec x r)=un2 ⟨[],(con.argsAt x).2.1⟩ ⟨Ij 0 (con.argsAt x).1,(con.argsAt x).2.2⟩:=by
   show oy (qG 0 ((con.argsAt x).1.map TSl.un)) _=oy (nU (Ij 0 (con.argsAt x).1++[])) _;rw[Ar,List.append_nil]; rfl
  rw[hst];refine kI hIt (Γ:={ js:=E.js,hs:=E.hs,vs:=E.fz,fz:=E.zs,mv:=E.ns,bx:=E.bs,nt:=fn.ntmps }) rfl hΦ ⟨rfl,rfl,rfl,rfl⟩ c an _ _ _ _ _ r _ (hHd c hb) k2 hr fun e c' hc=>?_;cases e with
  | exit i=>cases hc
  | normal=>exact GO hcl hc
  | ret=>exact GO hcl hc
 ·cases hr
def OZ [Fuel] (E:Env) (fn:Func) (an:An) (c:Con):Prop := ∀ x:Tup c.ps,fnT E fn an c.ain c.kin c.hin c.ps c.out c.ig c.qs x=c.fn x
theorem Qc [Fuel] {E:Env} {con:Con} {fn:Func} {an:An} (hrun:OZ E fn an con) (hm:E.P.follows .mixedOrders=true) (hf:E.P.funcs[con.f]?=some fn) (hk:uB E con fn an=true) (hΦ:∀ k∈E.Φ,de E.P k) (hIt:∀ it∈E.its,qS E.P it:=by intro _ h; cases h) (hHd:uC E fn an:=by exact uC.nil rfl):de E.P con:=Qb hm hf hk hΦ hIt hHd hrun
end Go.Lad
