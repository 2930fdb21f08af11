import Derived.Test.YtkpefpjpadahiaaGreatDoorAb11
namespace Go.Lad
set_option linter.unusedVariables false
set_option linter.unusedSimpArgs false
open Go.RowKit
inductive Cls where
 | N | A | W | R | P
 deriving DecidableEq
def ub (Γ:Opt) (o:Oper):Cls :=
 match o.op with
 | .move _ | .assign _ | .pick _ _ _ | .nilCheck _ | .fieldAddr _ _ _ | .field _ _ _ | .binOp _ _ _ _ _ | .unOp _ _ _ | .extract _ _ | .build _ _ | .index _ _ _ | .makeFunc _ _ _=>.N
 | .call { callee := .builtin .min,.. } | .call { callee := .builtin .max,.. }=>.N
 | .load _ _ | .indexAddr _ _ _ | .alloc _ | .buildSlice _ _ _ | .makeMap _ _ | .lookup _ _ _ _ | .slice _ _ _ _ none | .convert _ _ _ | .box _ _ | .makeSlice _ _ _=>.A
 | .call { callee := .builtin .len,.. }=>.A
 | .call { callee := .value _,.. }=>if mB Γ o then .A else .W
 | .call { callee := .builtin .append,.. }=>.P
 | _=>.W
def cls (Γ:Opt) (o:Oper):Cls:=if inL Γ.fz o.dst && cW o.op then .N else if inL Γ.fz o.dst && dO o.op then .P else if inL Γ.mv o.dst && mc o.op then .N else if inL Γ.bx o.dst && mc o.op then .R else ub Γ o
def Eh:Cls->Cls->Bool
 | .N,_=>true
 | _,.N=>true
 | .A,.A=>true
 | .A,.R=>true
 | .R,.A=>true
 | .R,.R=>true
 | .R,.P=>true
 | .P,.R=>true
 | _,_=>false
def me (Γ:Opt) (x y:Oper):Bool:=Eh (cls Γ x) (cls Γ y) && !(vl x.op && decide (cls Γ y = .P))
theorem CS (a b:Cls):Eh a b=Eh b a:=by cases a <;> cases b <;> rfl
theorem ru {Γ:Opt} {x y:Oper} (h:me Γ x y=true):Eh (cls Γ x) (cls Γ y)=true:=by
 unfold me at h;rw[Bool.and_eq_true] at h;exact h.1
theorem HX {Γ:Opt} {x y:Oper} (h:me Γ x y=true):vl x.op=true->cls Γ y ≠ .P:=by
 unfold me at h;rw[Bool.and_eq_true] at h;intro h1 h2;have:=h.2;rw[h1,h2] at this;cases this
def uc:Op->Bool
 | .call { callee := .value _,.. }=>true
 | _=>false
def Nn:Op->Bool
 | .alloc _=>true
 | .buildSlice _ _ ps=>ps.toList.isEmpty
 | _=>false
def alF (Γ:Opt) (o:Oper):Bool:=Nn o.op && !inL Γ.fz o.dst
def mvF (Γ:Opt) (o:Oper):Bool:=mc o.op && !inL Γ.fz o.dst
def FW (Γ:Opt) (x y:Oper):Bool :=
 (mvF Γ x && decide (cls Γ x = .R)) && (match lI x.op,y.op with
  | some a,.store _ (.tmp b) _=>Γ.bx.any fun e=>Nat.beq (e / 1000000) (a+1) && Γ.bx.any fun e'=>Nat.beq (e' / 1000000) (b+1) && (!Nat.beq (e % 1000000) (e' % 1000000) && (Nat.ble 500000 (e % 1000000) == Nat.ble 500000 (e' % 1000000)))
  | _,_=>false)
def xG (Γ:Opt) (x y:Oper):Bool :=
 uc x.op && ((mvF Γ y && decide (cls Γ y = .R)) && (match lI y.op with
  | some a=>Γ.bx.any fun e=>Nat.beq (e / 1000000) (a+1) && (Nat.ble 500000 (e % 1000000) && lB Γ x (e % 1000000-500000))
  | none=>false))
def yV (Γ:Opt) (x y:Oper):Bool:=me Γ x y || ((FW Γ x y || FW Γ y x) || (((uc x.op || decide (cls Γ x = .P)) && alF Γ y) || ((uc x.op && (nW Γ x && mvF Γ y)) || (uc y.op && (nW Γ y && mvF Γ x))))) || (xG Γ x y || xG Γ y x)
theorem vq {Γ:Opt} {o:Oper} (h:mvF Γ o=true):mc o.op=true/\inL Γ.fz o.dst=false:=by unfold mvF at h; rw[Bool.and_eq_true] at h; exact⟨h.1,by simpa using h.2⟩
theorem CT {Γ:Opt} {o:Oper}:ub Γ o ≠ .R:=by
 unfold ub;split <;> (try split) <;> simp
theorem HY (op:Op) (x:Operand) (h:x∈Op.bL op):x∈op.operands:=by
 cases op <;> simp only[Op.bL,Op.operands] at h ⊢ <;> first
  | (simp at h; done)
  | (simpa using h)
  | skip
 case call c =>
  unfold Call.operands;cases hc:c.callee <;> rw[hc] at h <;> simp_all
theorem hU {ops:Array Oper} {o:Oper} {d:Nat} (h : .tmp d∈Op.bL o.op):d∈o.looksAt ops :=
 List.mem_append_left _ (List.mem_filterMap.2 ⟨.tmp d,by simpa using HY _ _ h,rfl⟩)
section
variable {P:Program} {Γ:Opt} {ops:List Oper} {s:St}
def WF (s:St):Prop := ∀ t,∀ i∈(s.tm t).ids,s.hp i≠none
theorem qw (v:Value):(gF v).ids=[]:=by
 unfold gF; split <;> (try split) <;> rfl
theorem xf (v:Value):(jQ v).ids=[]:=by
 unfold jQ;split
 ·split
  ·simp only[Slot.ids,Cmp.ids,Cmp.leaves,List.flatMap_map];rw[List.flatMap_eq_nil_iff];intro x _;exact qw x
  ·rfl
 ·rfl
 ·simp [Slot.ids,Cmp.ids,Cmp.leaves,qw]
theorem WF.ev {s:St} (h:WF s) (x:Operand):∀ i∈(s.ev x).ids,s.hp i≠none:=by
 cases x with
 | tmp t=>exact h t
 | const v=>intro i hi; rw[St.ev,xf] at hi; cases hi
 | global g =>
  have key:∀ o:Option (List PV),∀ i∈(match o with | some cs=>(.c (.v (.ip cs 0)):Slot) | none=>.dead).ids,s.hp i≠none:=fun o i hi=>by cases o <;> simp [Slot.ids,Cmp.ids,Cmp.leaves,aJ.ids] at hi
  exact key (w6 g)
 | func f=>intro i hi; simp [St.ev,Slot.ids,Cmp.ids,Cmp.leaves,aJ.ids] at hi
theorem FX {w0:World} {χ0:Col} {T0:Ctx} {s:St} {a:Act} {w:World} {G:Gh} (r:cI w0 χ0 T0 s a w G):WF s:=by
 have hc:∀ (c:Cmp) v,CRd G s.hp w c v->∀ i∈c.ids,s.hp i≠none:=by
  intro c v h i hi;cases c with
  | v x=>exact LRd.ids h i (by simpa [Cmp.ids,Cmp.leaves] using hi)
  | g xs =>
   obtain⟨vs,_,hall⟩:=h;obtain⟨x,hx,hi'⟩:=List.mem_flatMap.1 hi;obtain⟨j,hj⟩:=List.mem_iff_getElem?.1 hx;obtain⟨y,_,hr⟩:=hall.get hj;exact hr.ids i hi'
 intro t i hi;have h:=r.tms t;cases hs:s.tm t with
 | dead=>rw[hs] at hi; cases hi
 | c c=>rw[hs] at h hi; exact hc c _ h i hi
 | t l =>
  rw[hs] at h hi;obtain⟨vs,_,hall⟩:=h;obtain⟨x,hx,hi'⟩:=List.mem_flatMap.1 hi;obtain⟨j,hj⟩:=List.mem_iff_getElem?.1 hx;obtain⟨y,_,hr⟩:=hall.get hj;exact hc x y hr i hi'
theorem AJ {s s':St} {σ:Ren} {x:aJ} {p:PV} (h:∀ i∈x.ids,s'.hp i=s.hp i) (hs:ky σ s x p):ky σ s' x p:=by
 unfold ky at hs ⊢;split at hs <;> first | exact hs | trivial | skip
 ·rename_i o l;rw[h o (by simp [aJ.ids])]; exact hs
 ·rename_i o k m;rw[h o (by simp [aJ.ids])]; exact hs
def Okp (s s':St) (i:Nat):Prop:=s'.hp i=s.hp i/\((∀ e cs,s.hp i≠some (.lit e cs))\/s'.hp=s.hp)
theorem vr {s s':St} {σ:Ren} {hps:List (Nat×df)} {x y:aJ} (h:∀ i∈x.ids,Okp s s' i) (hip:y.pc=false\/∀ i,s'.hp i=s.hp i) (hs:nu σ s hps x y):nu σ s' hps x y:=by
 unfold nu at hs ⊢;split at hs <;> first | exact hs | trivial | skip
 ·rename_i o l;obtain⟨h1,h2⟩:=h o (by simp [aJ.ids]);rcases h2 with h2 | h2
  ·rw[h1];refine⟨?_,hs.2⟩;have h3:=hs.1;split at h3
   ·exact h3
   ·rename_i e cs he;exact absurd he (h2 e cs)
   ·exact h3.elim
  ·have e:vb σ s'=vb σ s:=by
    have e3:ky σ s'=ky σ s:=by
     funext x p
     unfold ky;rw[h2]
    funext xs ps
    induction xs generalizing ps with
    | nil=>cases ps <;> rfl
    | cons x xs ih=>cases ps with
     | nil=>rfl
     | cons p ps=>unfold vb; rw[e3,ih]
   rw[h1,e]; exact hs
 ·rename_i o a b z l;rw[(h o (by simp [aJ.ids])).1]; exact hs
 ·exact AJ (fun i hi=>(h i hi).1) hs
 ·rcases hip with hip | hip
  ·cases hip
  ·have e:St.hp s'=s.hp:=funext hip;have e2:kJ σ s'=kJ σ s:=by
    have e3:ky σ s'=ky σ s:=by
     funext x p
     unfold ky;rw[e]
    funext xs ps
    induction xs generalizing ps with
    | nil=>cases ps <;> rfl
    | cons x xs ih=>cases ps with
     | nil=>rfl
     | cons p ps=>unfold kJ; rw[e3,ih]
   rw[e,e2]; exact hs
theorem lJ {s s':St} {σ:Ren} {hps:List (Nat×df)}:∀ {xs ys:List aJ},(∀ x∈xs,∀ i∈x.ids,Okp s s' i)->((∀ y∈ys,y.pc=false)\/∀ i,s'.hp i=s.hp i)->kz σ s hps xs ys->kz σ s' hps xs ys
 | [],[],_,_,h=>h
 | [],_::_,_,_,h=>h.elim
 | _::_,[],_,_,h=>h.elim
 | x::xs,y::ys,hh,hip,h=>⟨vr (hh x List.mem_cons_self) (hip.imp_left fun h=>h y List.mem_cons_self) h.1,lJ (fun z hz=>hh z (List.mem_cons_of_mem _ hz)) (hip.imp_left fun h z hz=>h z (List.mem_cons_of_mem _ hz)) h.2⟩
theorem vt {s s':St} {σ:Ren} {hps:List (Nat×df)} {x y:Cmp} (h:∀ i∈x.ids,Okp s s' i) (hip:(∀ l∈y.leaves,l.pc=false)\/∀ i,s'.hp i=s.hp i) (hs:sF σ s hps x y):sF σ s' hps x y:=by
 unfold sF at hs ⊢;split at hs
 ·exact vr (fun i hi=>h i (by simpa [Cmp.ids,Cmp.leaves] using hi)) (hip.imp_left fun h=>h _ (by simp [Cmp.leaves])) hs
 ·exact lJ (fun z hz i hi=>h i (List.mem_flatMap.2 ⟨z,hz,hi⟩)) hip hs
 ·exact hs.elim
theorem tH {s s':St} {σ:Ren} {hps:List (Nat×df)}:∀ {xs ys:List Cmp},(∀ x∈xs,∀ i∈x.ids,Okp s s' i)->((∀ y∈ys,∀ l∈y.leaves,l.pc=false)\/∀ i,s'.hp i=s.hp i)->qv σ s hps xs ys->qv σ s' hps xs ys
 | [],[],_,_,h=>h
 | [],_::_,_,_,h=>h.elim
 | _::_,[],_,_,h=>h.elim
 | x::xs,y::ys,hh,hip,h=>⟨vt (hh x List.mem_cons_self) (hip.imp_left fun h=>h y List.mem_cons_self) h.1,tH (fun z hz=>hh z (List.mem_cons_of_mem _ hz)) (hip.imp_left fun h z hz=>h z (List.mem_cons_of_mem _ hz)) h.2⟩
theorem CU {s s':St} {σ:Ren} {hps:List (Nat×df)} {x y:Slot} (h:∀ i∈x.ids,Okp s s' i) (hip:(∀ l∈y.lvs,l.pc=false)\/∀ i,s'.hp i=s.hp i) (hs:o9 σ s hps x y):o9 σ s' hps x y:=by
 unfold o9 at hs ⊢;split at hs
 ·trivial
 ·exact vt h hip hs
 ·exact tH (fun z hz i hi=>h i (List.mem_flatMap.2 ⟨z,hz,hi⟩)) (hip.imp_left fun h y hy l hl=>h l (List.mem_flatMap.2 ⟨y,hy,hl⟩)) hs
 ·exact hs.elim
theorem ph {s s':St} {σ:Ren} {hps:List (Nat×df)}:∀ {xs ys:List Slot},(∀ x∈xs,∀ i∈x.ids,Okp s s' i)->((∀ y∈ys,∀ l∈y.lvs,l.pc=false)\/∀ i,s'.hp i=s.hp i)->tD σ s hps xs ys->tD σ s' hps xs ys
 | [],[],_,_,h=>h
 | [],_::_,_,_,h=>h.elim
 | _::_,[],_,_,h=>h.elim
 | x::xs,y::ys,hh,hip,h=>⟨CU (hh x List.mem_cons_self) (hip.imp_left fun h=>h y List.mem_cons_self) h.1,ph (fun z hz=>hh z (List.mem_cons_of_mem _ hz)) (hip.imp_left fun h z hz=>h z (List.mem_cons_of_mem _ hz)) h.2⟩
theorem lK {α:Type} {p q:α->Prop}:∀ {l:List α},(∀ x∈l,p x->q x)->nj p l->nj q l
 | [],_,_=>trivial
 | x::l,hh,h=>⟨hh x List.mem_cons_self h.1,lK (fun y hy=>hh y (List.mem_cons_of_mem _ hy)) h.2⟩
theorem ry {s:St} {c:Call} {f:Nat} {caps:List Nat} {x:Slot} (h:x∈ga s c f caps):x∈c.args.toList.map s.ev\/x∈caps.map fun o=>Slot.c (.v (.loc o 0)):=by
 unfold ga at h;split at h
 ·exact List.mem_append.1 h
 ·exact (List.mem_append.1 h).symm
theorem vu {s s' : St} {o : Oper} {e : Eff} (hev : ∀ x∈Op.bL o.op, s'.ev x=s.ev x) (hhp : ∀ x∈Op.bL o.op, ∀ i∈(s.ev x).ids, s'.hp i=s.hp i) (hfr : ∀ k, jb o k->s'.hp k=s.hp k)
    (hW : mB Γ o=false->s'.hp=s.hp) (h : jk P Γ s o e) : jk P Γ s' o e := by
  obtain ⟨c, fo, f, caps, S, τ, vw, news, ho, hcal, hfo, hcb, hm, hok, hkp, rfl⟩ := h;have hops : Op.bL o.op=fo::c.args.toList := by rw [ho]; simp [Op.bL, hcal]
  have hca : ga s' c f caps=ga s c f caps := by
    unfold ga;rw [List.map_congr_left fun x hx => hev x (by rw [hops]; exact List.mem_cons_of_mem _ hx)]
  have hids : ∀ x∈ga s c f caps, ∀ i∈x.ids, s'.hp i=s.hp i := fun x hx i hi => by
    rcases ry hx with hx | hx
    · obtain ⟨y, hy, rfl⟩ := List.mem_map.1 hx
      exact hhp y (by rw [hops]; exact List.mem_cons_of_mem _ hy) i hi
    · obtain ⟨y, hy, rfl⟩ := List.mem_map.1 hx
      refine hhp fo (by rw [hops]; exact List.mem_cons_self) i ?_;rw [hfo];simp [Slot.ids, Cmp.ids, Cmp.leaves, aJ.ids] at hi ⊢;subst hi; exact hy
  refine ⟨c, fo, f, caps, S, τ, vw, news, ho, hcal, (hev fo (by rw [hops]; exact List.mem_cons_self)).trans hfo, hcb, hm, ?_, fun x hx hk => ?_, rfl⟩
  rotate_left
  · have e : s'.hp x.1=s.hp x.1 := by
      cases hp : mB Γ o with
      | false => rw [hW hp]
      | true =>
        have hτ := (hok.pure hp).1;obtain ⟨y, hy, rfl⟩ := List.mem_map.1 hx;have hd := fv hok.dom y hy;rw [hτ] at hd ⊢;cases hl : aq news y.1 with
        | none => exact absurd hl hd
        | some k =>
          have h1 := fv hok.fresh _ (dD hl);have h2 : rnN ([].map (fun x : Nat×Nat => (x.2, x.1))++news) y.1=k := by
            show (aq news y.1).getD y.1=k;rw [hl]; rfl
          dsimp only;rw [h2];exact hfr k h1.2.2
    rw [e];exact hkp x hx hk
  rw [hca];cases hp : mB Γ o with
  | false =>
    have hh := hW hp;refine ⟨fun h => (by rw [hp] at h; cases h), ph (fun x hx i hi => ⟨hids x hx i hi, .inr hh⟩) (.inr fun i => by rw [hh]) hok.args, lK (fun q _ hq => ?_) hok.iA, hok.nd0, hok.nd1, hok.nd2, hok.nd3, lK (fun x _ hx => by rw [hh]; exact hx) hok.tau, hok.dom, lK (fun x _ hx => by rw [hh]; exact hx) hok.fresh, hok.flat, fun h => (by rw [hp] at h; cases h)⟩;unfold HSub at hq ⊢;rw [hh];split
    · rename_i o2 hl
      rw [hl] at hq;dsimp only at hq;unfold yL at hq ⊢;split at hq <;> rename_i heq1 <;> first | trivial | skip
      · rename_i heq2
        obtain ⟨q1, q2⟩ := hq;exact ⟨q1, lJ (fun _ _ i _ => ⟨by rw [hh], .inr hh⟩) (.inr fun i => by rw [hh]) q2⟩
      · rename_i heq2
        first
          | exact hq
          | (obtain ⟨q1, q2⟩ := hq
             exact ⟨q1, lJ (fun _ _ i _ => ⟨by rw [hh], .inr hh⟩) (.inr fun i => by rw [hh]) q2⟩)
      all_goals first
        | exact hq
        | (obtain ⟨q1, q2⟩ := hq
           exact ⟨q1, lJ (fun _ _ i _ => ⟨by rw [hh], .inr hh⟩) (.inr fun i => by rw [hh]) q2⟩)
    · rename_i hl
      rw [hl] at hq;exact hq
  | true =>
    obtain ⟨hτ, hnoip⟩ := hok.pure hp;have hnolit := hok.lt hp;subst hτ;refine ⟨fun _ x hx i hi => (by rw [hids x hx i hi]; exact hnolit x hx i hi), ph (fun x hx i hi => ⟨hids x hx i hi, .inl (hnolit x hx i hi).2⟩) (.inl hnoip) hok.args, hok.iA, hok.nd0, hok.nd1, hok.nd2, hok.nd3, trivial, hok.dom, lK (fun x _ hx => ⟨by rw [hfr x.2 hx.2.2]; exact hx.1, hx.2⟩) hok.fresh, hok.flat, fun _ => ⟨rfl, hnoip⟩⟩
theorem xH {s s':St} {o:Oper} (hcl:∀ c f,o.op = .call c->c.callee ≠ .value f) (hev:∀ x∈Op.bL o.op,s'.ev x=s.ev x) (hhp:cls Γ o ≠ .N->∀ x∈Op.bL o.op,∀ i∈(s.ev x).ids,s'.hp i=s.hp i) (hfr:cls Γ o ≠ .N->cls Γ o ≠ .R->∀ k,jb o k->s'.hp k=s.hp k) (hno:pf Γ s o):opX P Γ s' o=opX P Γ s o:=by
 have e1:(Op.bL o.op).map s'.ev=(Op.bL o.op).map s.ev:=List.map_congr_left hev;cases hz:inL Γ.fz o.dst && cW o.op with
 | true=>rw[vm hz,vm hz,e1]
 | false =>
 cases ht:inL Γ.fz o.dst && dO o.op with
 | true =>
  have hP:cls Γ o = .P:=by unfold cls; rw[hz,ht]; rfl
  have hN:cls Γ o ≠ .N:=by rw[hP]; simp
  have hR:cls Γ o ≠ .R:=by rw[hP]; simp
  have e2:(Op.bL o.op).map s'.arg=(Op.bL o.op).map s.arg:=List.map_congr_left fun x hx=>by
   unfold St.arg;rw[hev x hx];congr 1;exact List.map_congr_left fun i hi=>hhp hN x hx i hi
  have e3:aY s'.hp o.dst=aY s.hp o.dst:=by
   cases hd:o.dst with
   | none=>rfl
   | some d =>
    simp only[aY];rw[hfr hN hR d ⟨d,0,hd,by simp⟩]
  rw[vn ht,vn ht,e2,e3]
 | false =>
 have hzt:=pg hz ht;rw[jc hzt,jc hzt];have hmvs:mc o.op=true->(Op.bL o.op).map s'.arg=(Op.bL o.op).map s.arg->orE (opE P o.op o.dst (aY s'.hp o.dst) ((Op.bL o.op).map s'.arg)) (opY P o.op o.dst (aY s'.hp o.dst) ((Op.bL o.op).map s'.arg))=orE (opE P o.op o.dst (aY s.hp o.dst) ((Op.bL o.op).map s.arg)) (opY P o.op o.dst (aY s.hp o.dst) ((Op.bL o.op).map s.arg)):=fun h2 e2=>by
  rw[e2];unfold mc at h2;split at h2 <;> rename_i hop <;> first | (cases h2; done) | (rw[hop]; simp only[opE,opY,gQ,opV])
 by_cases hN:cls Γ o = .N
 ·cases hmv:inL Γ.mv o.dst && mc o.op with
  | true =>
   rw[Bool.and_eq_true] at hmv;exact hmvs hmv.2 (List.map_congr_left fun x hx=>by
    unfold St.arg;rw[hev x hx,hno.1 hmv.1 x hx]; rfl)
  | false =>
   have hm:∀ s:St,((Op.bL o.op).map s.arg).map (·.1)=(Op.bL o.op).map s.ev:=fun s=>by rw[List.map_map]; rfl
   unfold cls at hN;rw[hz,ht,hmv] at hN;simp only[Bool.false_eq_true,if_false] at hN;split at hN
   ·cases hN
   unfold ub at hN;split at hN <;> rename_i hop <;> first | (cases hN; done) | (rw[hop]; simp only[opE,opY,gQ,opV]; rw[← hop,hm s',hm s,e1]) | (split at hN <;> cases hN)
 ·have e2:(Op.bL o.op).map s'.arg=(Op.bL o.op).map s.arg:=List.map_congr_left fun x hx=>by
   unfold St.arg;rw[hev x hx];congr 1;exact List.map_congr_left fun i hi=>hhp hN x hx i hi
  by_cases hR:cls Γ o = .R
  ·refine hmvs ?_ e2;unfold cls at hR;rw[hz,ht] at hR;simp only[Bool.false_eq_true,if_false] at hR;split at hR
   ·cases hR
   ·split at hR
    ·rename_i h; rw[Bool.and_eq_true] at h; exact h.2
    ·exact absurd hR CT
  ·have e3:aY s'.hp o.dst=aY s.hp o.dst:=by
    cases hd:o.dst with
    | none=>rfl
    | some d =>
     simp only[aY];rw[hfr hN hR d ⟨d,0,hd,by simp⟩]
   rw[e2,e3]
theorem H0 {op:Op} {k:Nat} (h:lI op=some k) : .tmp k∈Op.bL op:=by
 unfold lI at h;split at h <;> first | (cases h; done) | (injection h with h; subst h; simp [Op.bL])
theorem KI {o:Oper} {k:Nat} (h:lI o.op=some k) (hN:cls Γ o = .N):inL Γ.mv o.dst=true:=by
 unfold lI at h;unfold cls ub at hN;split at h <;> rename_i hop <;> first | (cases h; done) | skip
 all_goals
  rw[hop] at hN;simp only[cW,dO,mc,Bool.and_false,Bool.and_true,Bool.false_eq_true,if_false] at hN
 ·split at hN
  ·assumption
  ·split at hN <;> cases hN
 ·cases hN
theorem AK {s s':St} {o:Oper} (hev:∀ x∈Op.bL o.op,s'.ev x=s.ev x) (hhp:cls Γ o ≠ .N->∀ x∈Op.bL o.op,∀ i∈(s.ev x).ids,s'.hp i=s.hp i) (h:pf Γ s o):Nj Γ s' o:=by
 intro k hk t ht i hi;have hm:=H0 hk;rw[hev _ hm] at hi;by_cases hN:cls Γ o = .N
 ·have:=h.1 (KI hk hN) _ hm;rw[this] at hi; cases hi
 ·unfold btP;rw[hhp hN _ hm i hi];exact h.2.2 k hk t ht i hi
theorem eW {s s':St} {o:Oper} {e:Eff} (hev:∀ x∈Op.bL o.op,s'.ev x=s.ev x) (hhp:cls Γ o ≠ .N->∀ x∈Op.bL o.op,∀ i∈(s.ev x).ids,s'.hp i=s.hp i) (hfr:cls Γ o ≠ .N->cls Γ o ≠ .R->∀ k,jb o k->s'.hp k=s.hp k)
  (hW:cls Γ o = .W->s'.hp=s.hp) (h:Stp P Γ s o e):Stp P Γ s' o e:=by
 unfold Stp at h ⊢;split at h
 ·rename_i f args ts hop;have hc:cls Γ o=if mB Γ o then .A else .W:=by unfold cls ub; rw[hop]; simp [mc,cW,dO]
  have hN:cls Γ o ≠ .N:=by rw[hc]; split <;> simp
  have hR:cls Γ o ≠ .R:=by rw[hc]; split <;> simp
  exact vu hev (hhp hN) (hfr hN hR) (fun hp=>hW (by rw[hc,hp]; rfl)) h
 ·rename_i hno;by_cases hN:cls Γ o = .N
  ·refine⟨?_,fun hm x hx=>by rw[hev x hx]; exact h.2.1 hm x hx,fun hm hb x hx i hi=>?_,AK hev hhp h.2⟩
   ·rw[xH (Γ:=Γ) (fun c f hop hcal=>by
     obtain⟨cl,as,ts⟩:=c;dsimp only at hcal;subst hcal;exact hno _ _ _ hop) hev hhp hfr h.2]; exact h.1
   ·exfalso;unfold cls at hN;have hbl:cW o.op=false:=by
     rw[Bool.and_eq_true] at hb;have hb:=hb.2;unfold mc at hb;split at hb <;> rename_i hop <;> first | (cases hb; done) | (rw[hop]; rfl)
    rw[hm,hb,hbl,Bool.and_false] at hN;simp at hN;split at hN <;> cases hN
  ·refine⟨?_,fun hm x hx=>by rw[hev x hx]; exact h.2.1 hm x hx,fun hm hb x hx i hi=>?_,AK hev hhp h.2⟩
   ·rw[xH (Γ:=Γ) (fun c f hop hcal=>by
     obtain⟨cl,as,ts⟩:=c;dsimp only at hcal;subst hcal;exact hno _ _ _ hop) hev hhp hfr h.2]; exact h.1
   ·rw[hev x hx] at hi;rw[hhp hN x hx i hi];exact h.2.2.1 hm hb x hx i hi
theorem kM {x:Slot} {e:Eff} (h:val x=some e):e.wr=[]:=by simp only[val,Option.some.injEq] at h; rw[← h]
theorem iF {c:Prop} {x:Slot} {e:Eff} (h:dS c x=some e):e.wr=[]:=by simp only[dS,Option.some.injEq] at h; rw[← h]
theorem OG {x:Slot} {e:Eff} {c:Prop} (h:(some ⟨c,x,[]⟩:Option Eff)=some e):e.wr=[]:=by simp only[Option.some.injEq] at h; rw[← h]
theorem KJ {op:BinOp} {k:IntKind} {a b:Int} {e:Eff} (h:kE op k a b=some e):e.wr=[]:=by
 unfold kE at h;split at h <;> (try split at h) <;> first | exact kM h | exact iF h | cases h
theorem KK {op:BinOp} {a b:ByteArray} {e:Eff} (h:k8 op a b=some e):e.wr=[]:=by
 unfold k8 at h;split at h <;> first | exact kM h | exact iF h | cases h
theorem H2 {o:Oper} (h:(inL Γ.fz o.dst && dO o.op)=true):cls Γ o = .P:=by
 have h2:=h;rw[Bool.and_eq_true] at h2;have hb:cW o.op=false:=by
  have h3:=h2.2;unfold dO at h3;split at h3 <;> rename_i hop <;> first | (cases h3; done) | (rw[hop]; rfl)
 unfold cls;rw[hb,Bool.and_false,h]; rfl
theorem AL {o:Oper} (h:cls Γ o ≠ .P):(inL Γ.fz o.dst && dO o.op)=false:=by
 cases ht:inL Γ.fz o.dst && dO o.op with
 | true=>exact absurd (H2 ht) h
 | false=>rfl
theorem OH {s:St} {o:Oper} {e:Eff} (hN:cls Γ o = .N\/cls Γ o = .R) (h:Stp P Γ s o e):e.wr=[]:=by
 have key:∀ (hnc:∀ f a t,o.op ≠ .call ⟨.value f,a,t⟩),opX P Γ s o=some e/\pf Γ s o:=fun hnc=>by
  unfold Stp at h;split at h
  ·rename_i f a t hop; exact absurd hop (hnc f a t)
  ·exact h
 cases hz:inL Γ.fz o.dst && cW o.op with
 | true =>
  have hb:cW o.op=true:=by rw[Bool.and_eq_true] at hz; exact hz.2
  have h1:=(key (by intro f a t hop; rw[hop] at hb; cases hb)).1;rw[vm hz] at h1;exact HG h1
 | false =>
 have ht:(inL Γ.fz o.dst && dO o.op)=false:=AL (by rcases hN with h | h <;> rw[h] <;> simp);rw[jc (pg hz ht)] at key;cases h2:(inL Γ.mv o.dst || inL Γ.bx o.dst) && mc o.op with
 | true =>
  rw[Bool.and_eq_true] at h2;have h2:=h2.2;unfold mc at h2;split at h2 <;> rename_i hop <;> first | (cases h2; done) | skip
  all_goals
   obtain⟨h,_⟩:=key (by simp [hop]);rw[hop] at h;simp only[opE,opY,gQ,opV,fw,fk] at h
  ·unfold k7 at h;split at h
   ·split at h
    ·rw[Option.bind_eq_some_iff] at h;obtain⟨c,_,h⟩:=h;exact (kM h)
    ·cases h
   ·split at h <;> (try split at h) <;> first | exact (iF h) | cases h
   ·split at h <;> (try split at h) <;> (try split at h) <;> first | exact (iF h) | cases h
   ·cases h
  ·rcases iE h with h | h
   ·unfold eN at h;split at h <;> (try split at h) <;> (try split at h) <;> first | exact (iF h) | cases h
   ·exact nomatch h
  ·unfold iY at h;split at h <;> (try split at h) <;> (try split at h) <;> first | exact (kM h) | exact (iF h) | cases h
  ·split at h
   ·unfold kF at h;split at h <;> (try split at h) <;> first | exact (kM h) | exact (iF h) | cases h
   ·cases h
 | false =>
 have hN:ub Γ o = .N:=by
  have e1:(inL Γ.mv o.dst && mc o.op)=false:=by
   cases h3:inL Γ.mv o.dst <;> cases h4:inL Γ.bx o.dst <;> cases h5:mc o.op <;> simp_all
  have e2:(inL Γ.bx o.dst && mc o.op)=false:=by
   cases h3:inL Γ.mv o.dst <;> cases h4:inL Γ.bx o.dst <;> cases h5:mc o.op <;> simp_all
  unfold cls at hN;rw[hz,ht,e1,e2] at hN;rcases hN with hN | hN
  ·exact hN
  ·exact absurd hN CT
 unfold ub at hN;split at hN <;> rename_i hop <;> first | (cases hN; done) | (split at hN <;> cases hN; done) | skip
 all_goals
  obtain⟨h,_⟩:=key (by simp [hop]);rw[hop] at h;simp only[opE,opY,gQ,opV,fw,fk] at h
 ·unfold sA at h; split at h <;> first | exact kM h | cases h
 ·unfold sA at h; split at h <;> first | exact kM h | cases h
 ·unfold qE at h; split at h <;> first | exact kM h | cases h
 ·unfold Ag at h; split at h <;> first | exact kM h | cases h
 ·unfold iS at h; split at h <;> (try split at h) <;> first | exact kM h | cases h
 ·unfold pJ at h;split at h
  ·split at h
   ·rw[Option.bind_eq_some_iff] at h;obtain⟨c,_,h⟩:=h;exact kM h
   ·cases h
  ·cases h
 ·rcases iE h with h | h
  ·unfold kY at h;split at h
   ·split at h
    ·exact KJ h
    ·cases h
   ·exact KK h
   all_goals first | cases h | (split at h <;> first | exact kM h | cases h)
  ·unfold xb at h;split at h
   ·rename_i heq;injection h with h
    subst h;unfold oN at heq;split at heq <;> (try split at heq) <;> (try split at heq) <;> (try split at heq) <;> (try split at heq) <;> first | exact kM heq | cases heq
   ·split at h
    ·rename_i heq;injection h with h
     subst h;unfold CJ at heq;split at heq <;> (try split at heq) <;> (try split at heq) <;> first | exact kM heq | exact iF heq | cases heq
    ·unfold AA at h;split at h <;> (try split at h) <;> first | exact kM h | cases h
 ·unfold Hi at h; split at h <;> (try split at h) <;> first | exact kM h | exact iF h | cases h
 ·unfold ml at h; split at h <;> (try split at h) <;> first | exact kM h | cases h
 ·unfold pK at h; split at h <;> (try split at h) <;> (try split at h) <;> first | exact kM h | cases h
 ·unfold lY at h; split at h <;> (try split at h) <;> (try split at h) <;> (try split at h) <;> first | exact iF h | cases h
 ·unfold kn at h; split at h <;> (try split at h) <;> first | exact kM h | cases h
 ·unfold lH at h; split at h <;> (try split at h) <;> first | exact kM h | cases h
 ·unfold lH at h; split at h <;> (try split at h) <;> first | exact kM h | cases h
theorem OI {s:St} {o:Oper} {e:Eff} (hA:cls Γ o = .A) (h:Stp P Γ s o e):∀ x∈e.wr,s.hp x.1=none/\jb o x.1:=by
 have nil:e.wr=[]->∀ x∈e.wr,s.hp x.1=none/\jb o x.1:=fun h x hx=>by rw[h] at hx; cases hx
 have key:∀ (hnc:∀ f a t,o.op ≠ .call ⟨.value f,a,t⟩),e.wr=[]\/orE (opE P o.op o.dst (aY s.hp o.dst) ((Op.bL o.op).map s.arg)) (opY P o.op o.dst (aY s.hp o.dst) ((Op.bL o.op).map s.arg))=some e:=fun hnc=>by
  unfold Stp at h;split at h
  ·rename_i f a t hop; exact absurd hop (hnc f a t)
  ·cases hz:inL Γ.fz o.dst && cW o.op with
   | true=>rw[vm hz] at h; exact .inl (HG h.1)
   | false=>rw[jc (pg hz (AL (by rw[hA]; simp)))] at h; exact .inr h.1
 unfold cls at hA;split at hA
 ·cases hA
 split at hA
 ·cases hA
 split at hA
 ·cases hA
 split at hA
 ·cases hA
 unfold ub at hA;split at hA <;> rename_i hop <;> first | (cases hA; done) | skip
 ·rcases key (by simp [hop]) with h | h
  ·exact nil h
  rw[hop] at h;simp only[opE,opY,gQ,opV,fw,fk] at h;unfold k7 at h;split at h
  ·split at h
   ·rw[Option.bind_eq_some_iff] at h;obtain⟨c,_,h⟩:=h;exact nil (kM h)
   ·cases h
  ·split at h <;> (try split at h) <;> first | exact nil (iF h) | cases h
  ·split at h <;> (try split at h) <;> (try split at h) <;> first | exact nil (iF h) | cases h
  ·cases h
 ·rcases key (by simp [hop]) with h | h
  ·exact nil h
  rw[hop] at h;simp only[opE,opY,gQ,opV,fw,fk] at h;rcases iE h with h | h
  ·unfold eN at h;split at h <;> (try split at h) <;> (try split at h) <;> first | exact nil (iF h) | cases h
  ·exact nomatch h
 ·rename_i t;rcases key (by simp [hop]) with h | h
  ·exact nil h
  rw[hop] at h;simp only[opE,opY,gQ,opV,fw,Op.bL,List.map_nil] at h;cases hdst:o.dst with
  | none=>simp [jF,hdst] at h
  | some d =>
   cases hz:jJ P t with
   | none=>simp [jF,hz] at h
   | some cs =>
    simp only[jF,hdst,hz] at h;split at h
    ·rename_i hf;simp only[Option.some.injEq] at h;subst h;intro x hx;simp at hx;subst hx;exact⟨(by simpa [aY] using hf:_/\_).1,d,0,hdst,by simp⟩
    ·cases h
 ·rcases key (by simp [hop]) with h | h
  ·exact nil h
  rw[hop] at h;simp only[opE,opY,gQ,opV,fw,fk] at h;cases hdst:o.dst with
  | none =>
   rcases iE h with h | h
   ·simp [dG,hdst] at h
   ·simp [fp,hdst] at h
  | some d =>
   rcases iE h with h | h
   ·unfold dG at h;rw[hdst] at h;split at h
    ·rename_i e' z d' _ hdd;injection hdd with hdd
     subst hdd;split at h
     ·rename_i hc;split at h
      ·simp only[Option.some.injEq] at h;subst h;intro x hx;simp at hx;subst hx;exact⟨(by simpa [aY] using hc.2.1:_/\_).1,d,0,hdst,by simp⟩
      ·cases h
     ·cases h
    ·cases h
   ·unfold fp at h;rw[hdst] at h;split at h
    ·rename_i e' z d' _ hdd;injection hdd with hdd
     subst hdd;split at h
     ·rename_i hc;split at h
      ·simp only[Option.some.injEq] at h;subst h;intro x hx;simp at hx;subst hx;exact⟨(by simpa [aY] using hc.2.1:_/\_).1,d,0,hdst,by simp⟩
      ·cases h
     ·cases h
    ·cases h
 ·rename_i t rs;rcases key (by simp [hop]) with h | h
  ·exact nil h
  rw[hop] at h;simp only[opE,opY,gQ,opV,fw,fk] at h;unfold ju at h;split at h
  ·split at h
   ·rename_i kt et d hu hdd;split at h
    ·split at h
     ·split at h
      ·rename_i hf;simp only[Option.some.injEq] at h;subst h;intro x hx;simp at hx;subst hx;exact⟨(by rw[hdd] at hf; simpa [aY] using hf:_/\_).1,d,0,hdd,by simp⟩
      ·cases h
     ·cases h
    ·split at h
     ·split at h
      ·rename_i hf;simp only[Option.some.injEq] at h;subst h;intro x hx;simp at hx;subst hx;exact⟨(by rw[hdd] at hf; simpa [aY] using hf:_/\_).1,d,0,hdd,by simp⟩
      ·cases h
     ·split at h
      ·split at h
       ·rename_i hf;simp only[Option.some.injEq] at h;subst h;intro x hx;simp at hx;subst hx;exact⟨(by rw[hdd] at hf; simpa [aY] using hf:_/\_).1,d,0,hdd,by simp⟩
       ·cases h
      ·cases h
     ·cases h
   ·cases h
  ·cases h
 ·rcases key (by simp [hop]) with h | h
  ·exact nil h
  rw[hop] at h;simp only[opE,opY,gQ,opV,fw,fk] at h;rcases iE h with h | h
  ·unfold gN at h;split at h <;> (try split at h) <;> (try split at h) <;> (try split at h) <;> first | exact nil (kM h) | cases h
  ·split at h;all_goals first | (rename_i heq; cases heq; done) | skip
   ·exact nomatch h
   all_goals cases h
 ·rcases key (by simp [hop]) with h | h
  ·exact nil h
  rw[hop] at h;simp only[opE,opY,gQ,opV,fw,fk] at h;unfold iY at h;split at h <;> (try split at h) <;> (try split at h) <;> first | exact nil (kM h) | exact nil (iF h) | cases h
 ·rcases key (by simp [hop]) with h | h
  ·exact nil h
  rw[hop] at h;simp only[opE,opY,gQ,opV,fw,fk] at h;rcases iE h with h | h
  ·unfold jD at h; split at h <;> (try split at h) <;> (try split at h) <;> first | exact nil (kM h) | cases h
  ·unfold lC at h;split at h
   ·rename_i heq;injection h with h
    subst h;exact nil (Kw heq)
   ·unfold pd at h;split at h <;> (try split at h) <;> (try split at h) <;> first | exact nil (OG h) | cases h
 ·rcases key (by simp [hop]) with h | h
  ·exact nil h
  rw[hop] at h;simp only[opE,opY,gQ,opV,fw,fk] at h;unfold vg at h;split at h
  ·split at h
   ·rename_i d n hdst hn;split at h
    ·rename_i hc;simp only[Option.some.injEq] at h;subst h;intro x hx;simp at hx;subst hx;have hf:=hc.1;rw[hdst] at hf;exact⟨(by simpa [aY] using hf:_/\_).1,d,0,hdst,by simp⟩
    ·cases h
   ·cases h
  ·cases h
 ·rcases key (by simp [hop]) with h | h
  ·exact nil h
  rw[hop] at h;simp only[opE,opY,gQ,opV,fw,fk] at h;exact nomatch h
 ·rcases key (by simp [hop]) with h | h
  ·exact nil h
  rw[hop] at h;simp only[opE,opY,gQ,opV,fw,fk] at h;split at h
  ·unfold kF at h;split at h <;> (try split at h) <;> first | exact nil (kM h) | exact nil (iF h) | cases h
  ·cases h
 ·split at hA
  ·rename_i hp;unfold Stp at h;rw[hop] at h;obtain⟨c,fo,f,caps,S,τ,vw,news,ho,hcal,hfo,hcb,hm,hok,hkp,rfl⟩:=h;have hτ:=(hok.pure hp).1;subst hτ;intro x hx;obtain⟨y,hy,rfl⟩:=List.mem_map.1 hx;have hd:=fv hok.dom y hy;cases hl:aq news y.1 with
   | none=>exact absurd hl hd
   | some k =>
    have h1:=fv hok.fresh _ (dD hl);have h2:rnN ([].map (fun x:Nat×Nat=>(x.2,x.1))++news) y.1=k:=by
     show (aq news y.1).getD y.1=k;rw[hl]; rfl
    dsimp only;rw[h2];exact⟨h1.1,h1.2.2⟩
  ·cases hA
theorem KL {s:St} {o:Oper} {e:Eff} (h:yS P o.op o.dst (aY s.hp o.dst) ((Op.bL o.op).map s.arg)=some e):∀ x∈e.wr,(s.hp x.1=none\/∀ t cs,s.hp x.1≠some (.box t cs))/\(∀ t cs,x.2 ≠ .box t cs)/\((∀ t z l,x.2 ≠ .arr t z l)\/s.hp x.1=none):=by
 have hfree:∀ d,o.dst=some d->aY s.hp o.dst=true->s.hp d=none:=fun d hd hf=>by
  rw[hd] at hf;exact (by simpa [aY] using hf:_/\_).1
 unfold yS at h;split at h <;> rename_i hop
 ·exact nomatch h
 ·rw[hop] at h;simp only[Op.bL,List.map_cons,List.map_nil] at h;exact nomatch h
 ·rw[hop] at h;simp only[Op.bL,List.map_cons] at h;unfold qJ at h;split at h
  ·rename_i ob e' z' l as heq;simp only[List.cons.injEq] at heq;have hob:s.hp ob=some (.arr e' z' l):=by simpa [Slot.ids,Cmp.ids,Cmp.leaves,aJ.ids] using (St.cE heq.1).2
   split at h
   ·rename_i hdst;split at h
    ·rename_i hc;simp only[Option.some.injEq] at h;subst h;have hn:=hfree _ hdst hc.2;intro x hx;simp at hx;rcases hx with rfl | rfl
     ·exact⟨.inr (by rw[hob]; simp),by simp,.inl (by simp)⟩
     ·exact⟨.inl hn,by simp,.inr hn⟩
    ·cases h
   ·cases h
  ·cases h
 ·rw[hop] at h;simp only[Op.bL,List.map_nil] at h;exact nomatch h
 ·rw[hop] at h;simp only[Op.bL,Option.toList,List.map_nil] at h;exact nomatch h
 ·rw[hop] at h;exact nomatch h
 ·rename_i as ts;split at h
  ·split at h
   ·rw[hop] at h;simp only[Op.bL,List.nil_append] at h;unfold nk at h;split at h
    ·rename_i ob e0 z l y heq;have hob:s.hp ob=some (.arr e0 z l):=by
      cases hl:as.toList with
      | nil=>rw[hl] at heq; cases heq
      | cons x r =>
       rw[hl,List.map_cons] at heq;injection heq with h1 h2
       injection h1 with h3 h4
       rw[h3] at h4
       simpa [Slot.ids,Cmp.ids,Cmp.leaves,aJ.ids] using h4
     split at h
     ·split at h
      ·simp only[Option.some.injEq] at h;subst h;intro x hx;simp at hx;subst hx;exact⟨.inr (by rw[hob]; simp),by simp,.inl (by simp)⟩
      ·cases h
     ·cases h
    ·cases h
   ·cases h
  ·cases h
 ·cases h
theorem OJ {s:St} {o:Oper} {e:Eff} (hP:cls Γ o = .P) (h:Stp P Γ s o e):∀ x∈e.wr,(s.hp x.1=none\/∀ t cs,s.hp x.1≠some (.box t cs))/\(∀ t cs,x.2 ≠ .box t cs)/\((∀ t z l,x.2 ≠ .arr t z l)\/s.hp x.1=none):=by
 cases ht:inL Γ.fz o.dst && dO o.op with
 | true =>
  have h1:opX P Γ s o=some e:=by
   unfold Stp at h;split at h
   ·rename_i hop;rw[Bool.and_eq_true] at ht;have:=ht.2;rw[hop] at this; cases this
   ·exact h.1
  rw[vn ht] at h1;exact KL h1
 | false =>
 unfold cls at hP;split at hP
 ·cases hP
 rename_i hz;rw[ht] at hP;rw[if_neg (by simp)] at hP;split at hP
 ·cases hP
 split at hP
 ·cases hP
 unfold ub at hP;split at hP <;> rename_i hop <;> first | (cases hP; done) | (split at hP <;> cases hP; done) | skip
 rename_i as ts;unfold Stp at h;rw[hop] at h;obtain⟨h,_⟩:=h;rw[jc (pg (by simpa using hz) ht)] at h;rw[hop] at h;simp only[opE,opY,gQ,opV,fw,fk,Op.bL,List.nil_append] at h;have key:∀ t,gM P t o.dst (aY s.hp o.dst) (as.toList.map s.arg)=some e->∀ x∈e.wr,(s.hp x.1=none\/∀ t cs,s.hp x.1≠some (.box t cs))/\(∀ t cs,x.2 ≠ .box t cs)/\((∀ t z l,x.2 ≠ .arr t z l)\/s.hp x.1=none):=by
  intro t h;have hfree:∀ d,o.dst=some d->aY s.hp o.dst=true->s.hp d=none:=fun d hd hf=>by
   rw[hd] at hf;exact (by simpa [aY] using hf:_/\_).1
  unfold gM at h;split at h
  ·rename_i ob e0 z l y heq;have hob:s.hp ob=some (.arr e0 z l):=by
    cases hl:as.toList with
    | nil=>rw[hl] at heq; cases heq
    | cons x r =>
     rw[hl,List.map_cons] at heq;injection heq with h1 h2
     injection h1 with h3 h4
     rw[h3] at h4
     simpa [Slot.ids,Cmp.ids,Cmp.leaves,aJ.ids] using h4
   split at h
   ·rename_i e' z' m d _ _ hd;split at h
    ·rename_i hc;simp only[Option.some.injEq] at h;subst h;intro x hx;simp at hx;rcases hx with rfl | rfl
     ·exact⟨.inr (by rw[hob]; simp),by simp⟩
     ·exact⟨.inl (hfree d hd hc.2.2),by simp,.inr (hfree d hd hc.2.2)⟩
    ·cases h
   ·cases h
  ·split at h
   ·rename_i e' z' m d _ _ hd;split at h
    ·rename_i hc;simp only[Option.some.injEq] at h;subst h;intro x hx;simp at hx;subst hx;exact⟨.inl (hfree d hd hc),by simp,.inr (hfree d hd hc)⟩
    ·cases h
   ·cases h
  ·cases h
 have keyT:∀ t,lR P t o.dst (aY s.hp o.dst) (as.toList.map s.arg)=some e->∀ x∈e.wr,(s.hp x.1=none\/∀ t cs,s.hp x.1≠some (.box t cs))/\(∀ t cs,x.2 ≠ .box t cs)/\((∀ t z l,x.2 ≠ .arr t z l)\/s.hp x.1=none):=by
  intro t h;unfold lR at h;split at h
  ·split at h
   ·rename_i hd;split at h
    ·rename_i hc;simp only[Option.some.injEq] at h;subst h;intro x hx;simp at hx;subst hx;rw[hd] at hc;have hn:=(by simpa [aY] using hc:_/\_).1;exact⟨.inl hn,by simp,.inr hn⟩
    ·cases h
   ·cases h
  ·cases h
 have Ad:∀ t t',pe P t t' o.dst (aY s.hp o.dst) (as.toList.map s.arg)=some e->∀ x∈e.wr,(s.hp x.1=none\/∀ t cs,s.hp x.1≠some (.box t cs))/\(∀ t cs,x.2 ≠ .box t cs)/\((∀ t z l,x.2 ≠ .arr t z l)\/s.hp x.1=none):=by
  intro t t' h;exact nomatch h
 have dN:∀ t t',kL P t t' o.dst (aY s.hp o.dst) (as.toList.map s.arg)=some e->∀ x∈e.wr,(s.hp x.1=none\/∀ t cs,s.hp x.1≠some (.box t cs))/\(∀ t cs,x.2 ≠ .box t cs)/\((∀ t z l,x.2 ≠ .arr t z l)\/s.hp x.1=none):=by
  intro t t' h;have hfree:∀ d,o.dst=some d->aY s.hp o.dst=true->s.hp d=none:=fun d hd hf=>by
   rw[hd] at hf;exact (by simpa [aY] using hf:_/\_).1
  unfold kL at h;split at h
  ·rename_i ob e0 z l sx y heq;have hob:s.hp ob=some (.arr e0 z l):=by
    cases hl:as.toList with
    | nil=>rw[hl] at heq; cases heq
    | cons x r =>
     rw[hl,List.map_cons] at heq;injection heq with h1 h2
     injection h1 with h3 h4
     rw[h3] at h4
     simpa [Slot.ids,Cmp.ids,Cmp.leaves,aJ.ids] using h4
   split at h
   ·rename_i e' z' d _ _ hd;split at h
    ·rename_i hc;simp only[Option.some.injEq] at h;subst h;intro x hx;simp at hx;rcases hx with rfl | rfl
     ·exact⟨.inr (by rw[hob]; simp),by simp⟩
     ·exact⟨.inl (hfree d hd hc.2.2.2),by simp,.inr (hfree d hd hc.2.2.2)⟩
    ·cases h
   ·cases h
  ·split at h
   ·rename_i e' z' d _ _ hd;split at h
    ·rename_i hc;simp only[Option.some.injEq] at h;subst h;intro x hx;simp at hx;subst hx;exact⟨.inl (hfree d hd hc.2),by simp,.inr (hfree d hd hc.2)⟩
    ·cases h
   ·cases h
  ·cases h
 have keyJ:∀ t t',mD P t t' o.dst (aY s.hp o.dst) (as.toList.map s.arg)=some e->∀ x∈e.wr,(s.hp x.1=none\/∀ t cs,s.hp x.1≠some (.box t cs))/\(∀ t cs,x.2 ≠ .box t cs)/\((∀ t z l,x.2 ≠ .arr t z l)\/s.hp x.1=none):=by
  intro t t' h;unfold mD at h;split at h
  ·rename_i e' he;injection h with h
   subst h;exact Ad t t' he
  ·exact dN t t' h
 rcases iE h with h | h
 ·split at h
  ·split at h
   ·exact key _ h
   ·cases h
  ·cases h
 ·split at h
  ·split at h
   ·exact keyT _ h
   ·exact keyJ _ _ h
  ·cases h
theorem eE {s s':St} {o:Oper} {e:Eff} (hg:ny ops s' o=ny ops s o) (h:Stp P Γ s o e->Stp P Γ s' o e):fR P Γ ops s o e->fR P Γ ops s' o e:=by
 rintro (⟨h1,h2⟩ | ⟨h1,h2⟩)
 ·exact .inl ⟨hg.trans h1,h h2⟩
 ·exact .inr ⟨hg.trans h1,h2⟩
theorem CV (s:St) (d:Option Nat) (e:Eff) (t:Nat):(s.app d e).tm t=if d=some t then e.res else s.tm t:=by
 cases d with
 | none=>rfl
 | some k =>
  show upd s.tm k e.res t=_;unfold upd;by_cases h:t=k
  ·subst h; simp
  ·rw[if_neg h,if_neg (fun e=>h (by injection e with e; exact e.symm))]
theorem lS {s:St} {d:Option Nat} {e:Eff} {x:Operand} (h:∀ k,d=some k->x ≠ .tmp k):(s.app d e).ev x=s.ev x:=by
 cases x with
 | tmp t =>
  show (s.app d e).tm t=s.tm t;rw[CV,if_neg (fun hd=>h t hd rfl)]
 | _=>rfl
theorem ir (hp:Hp):∀ (l:List (Nat×df)) (k:Nat),(∀ x∈l,x.1≠k)->eM hp l k=hp k
 | [],_,_=>rfl
 | x::l,k,h=>by
  show eM (upd hp x.1 (some x.2)) l k=hp k;rw[ir _ l k fun y hy=>h y (List.mem_cons_of_mem _ hy)];unfold upd;rw[if_neg (fun e=>h x List.mem_cons_self e.symm)]
theorem AM:∀ (m:List (Nat×df)) (hp:Hp) (k:Nat) (v:df),(∀ y∈m,k≠y.1)->eM (upd hp k (some v)) m=upd (eM hp m) k (some v)
 | [],_,_,_,_=>rfl
 | y::m,hp,k,v,hx=>by
  show eM (upd (upd hp k (some v)) y.1 (some y.2)) m=upd (eM (upd hp y.1 (some y.2)) m) k (some v);rw[← AM m _ k v fun z hz=>hx z (List.mem_cons_of_mem _ hz)];congr 1;funext j
  have:=hx y List.mem_cons_self;unfold upd;by_cases h1:j=y.1
  ·rw[if_pos h1,if_neg (fun e=>this (e.symm.trans h1)),if_pos h1]
  ·rw[if_neg h1];by_cases h2:j=k
   ·rw[if_pos h2,if_pos h2]
   ·rw[if_neg h2,if_neg h2,if_neg h1]
theorem xI:∀ (l m:List (Nat×df)) (hp:Hp),(∀ x∈l,∀ y∈m,x.1≠y.1)->eM (eM hp l) m=eM (eM hp m) l
 | [],m,hp,_=>rfl
 | x::l,m,hp,h=>by
  show eM (eM (upd hp x.1 (some x.2)) l) m=eM (upd (eM hp m) x.1 (some x.2)) l;rw[xI l m _ fun a ha b hb=>h a (List.mem_cons_of_mem _ ha) b hb];congr 1;exact AM m hp x.1 x.2 (h x List.mem_cons_self)
theorem oe {s:St} {o:Oper} {e:Eff} (h:fR P Γ ops s o e):(cls Γ o = .N\/cls Γ o = .R->e.wr=[])/\(cls Γ o = .A->∀ x∈e.wr,s.hp x.1=none/\jb o x.1)/\(cls Γ o = .P->∀ x∈e.wr,(s.hp x.1=none\/∀ t cs,s.hp x.1≠some (.box t cs))/\(∀ t cs,x.2 ≠ .box t cs)/\((∀ t z l,x.2 ≠ .arr t z l)\/s.hp x.1=none)):=by
 rcases h with⟨_,h⟩ | ⟨_,rfl⟩
 ·exact⟨fun hN=>OH hN h,fun hA=>OI hA h,fun hP=>OJ hP h⟩
 ·exact⟨fun _=>rfl,(fun _ x hx=>by cases hx),(fun _ x hx=>by cases hx)⟩
theorem ek {s:St} {oi oj:Oper} {ei:Eff} (h1:∀ d,oi.dst=some d->d∉oj.looksAt ops.toArray):ny ops (s.app oi.dst ei) oj=ny ops s oj:=by
 unfold ny;cases hg:oj.guard with
 | none=>rfl
 | some gb =>
  obtain⟨g,b⟩:=gb;have:jv ops (s.app oi.dst ei) g=jv ops s g:=by
   unfold jv;cases hd:(ops[g]?).bind (·.dst) with
   | none=>rfl
   | some d =>
    dsimp only;rw[CV,if_neg];intro he;refine h1 d he ?_;unfold Oper.looksAt;refine List.mem_append_right _ ?_;rw[hg];have:((ops.toArray[g]?).bind (·.dst))=some d:=by simpa using hd
    simp [hd]
  simp only[this]
theorem vv:∀ (l:List (Nat×df)) (hp:Hp) (i:Nat),(∀ x∈l,∀ t cs,x.2 ≠ .box t cs)->∀ {t:TypeId} {cs:List aJ},eM hp l i=some (.box t cs)->eM hp l i=hp i
 | [],_,_,_,_,_,_=>rfl
 | x::l,hp,i,h,t,cs,he=>by
  have he:eM (upd hp x.1 (some x.2)) l i=some (.box t cs):=he;show eM (upd hp x.1 (some x.2)) l i=_;have:=vv l _ i (fun y hy=>h y (List.mem_cons_of_mem _ hy)) he;rw[this];rw[this] at he;unfold upd at he ⊢;by_cases hi:i=x.1
  ·rw[if_pos hi] at he;injection he with he
   exact absurd he (h x List.mem_cons_self t cs)
  ·rw[if_neg hi]
theorem vx:∀ (l:List (Nat×df)) (hp:Hp) (i:Nat),(∀ x∈l,x.1=i->∀ t z l,x.2 ≠ .arr t z l)->∀ {t:TypeId} {z:Nat} {cs:List (List PV)},eM hp l i=some (.arr t z cs)->eM hp l i=hp i
 | [],_,_,_,_,_,_,_=>rfl
 | x::l,hp,i,h,t,z,cs,he=>by
  have he:eM (upd hp x.1 (some x.2)) l i=some (.arr t z cs):=he;show eM (upd hp x.1 (some x.2)) l i=_;have:=vx l _ i (fun y hy=>h y (List.mem_cons_of_mem _ hy)) he;rw[this];rw[this] at he;unfold upd at he ⊢;by_cases hi:i=x.1
  ·rw[if_pos hi] at he;injection he with he
   exact absurd he (h x List.mem_cons_self hi.symm t z cs)
  ·rw[if_neg hi]
theorem xJ {s:St} {oi oj:Oper} {ei ej:Eff} (hwf:WF s) (hap:oi.apart ops.toArray oj=true) (hc:me Γ oi oj=true) (hbi:∀ d:Nat,oi.dst=some d->d<10000) (hbj:∀ d:Nat,oj.dst=some d->d<10000)
  (hi:fR P Γ ops s oi ei):(fR P Γ ops (s.app oi.dst ei) oj ej->fR P Γ ops s oj ej)/\((vl oj.op=true->cls Γ oi ≠ .P)->fR P Γ ops s oj ej->fR P Γ ops (s.app oi.dst ei) oj ej):=by
 obtain⟨h1,h2,h3⟩:=Oper.apart_spec hap;have hev:∀ x∈Op.bL oj.op,(s.app oi.dst ei).ev x=s.ev x:=fun x hx=>lS fun k hk hxk=>h1 k hk (hU (by rw[← hxk]; exact hx));have hcases:ei.wr=[]\/cls Γ oj = .N\/(cls Γ oi = .A/\(cls Γ oj = .A\/cls Γ oj = .R))\/(cls Γ oi = .P/\cls Γ oj = .R):=by
  have hc:=ru hc;have hw:=(oe hi).1;cases hci:cls Γ oi <;> cases hcj:cls Γ oj <;> rw[hci,hcj] at hc <;> first | (cases hc; done) | (exact .inl (hw (.inl hci))) | (exact .inl (hw (.inr hci))) | (exact .inr (.inl rfl)) | (exact .inr (.inr (.inl ⟨rfl,.inl rfl⟩))) | (exact .inr (.inr (.inl ⟨rfl,.inr rfl⟩))) | (exact .inr (.inr (.inr ⟨rfl,rfl⟩)))
 have hRb:cls Γ oj = .R->fR P Γ ops s oj ej\/fR P Γ ops (s.app oi.dst ei) oj ej->True:=fun _ _=>trivial;rcases hcases with hw | hN | hA | hP
 ·
  have hh:(s.app oi.dst ei).hp=s.hp:=by show eM s.hp ei.wr=s.hp; rw[hw]; rfl
  constructor
  ·exact eE (ek h1).symm (eW (fun x hx=>(hev x hx).symm) (fun _ x hx i hid=>by rw[hh]) (fun _ _ k hk=>by rw[hh]) (fun _=>hh.symm))
  ·intro _;exact eE (ek h1) (eW hev (fun _ x hx i hid=>by rw[hh]) (fun _ _ k hk=>by rw[hh]) (fun _=>hh))
 ·constructor
  ·exact eE (ek h1).symm (eW (fun x hx=>(hev x hx).symm) (fun h=>absurd hN h) (fun h=>absurd hN h) (fun h=>by rw[hN] at h; cases h))
  ·intro _;exact eE (ek h1) (eW hev (fun h=>absurd hN h) (fun h=>absurd hN h) (fun h=>by rw[hN] at h; cases h))
 ·obtain⟨hA,hj⟩:=hA;have hnW:cls Γ oj ≠ .W:=by rcases hj with h | h <;> rw[h] <;> simp
  have hhp:∀ x∈Op.bL oj.op,∀ i∈(s.ev x).ids,(s.app oi.dst ei).hp i=s.hp i:=fun x hx i hid=>by
   refine ir _ _ _ fun y hy he=>?_;have h5:=((oe hi).2.1 hA y hy).1;have h6:=hwf.ev x i hid;rw[← he] at h6;exact h6 h5
  have hfr:∀ k,jb oj k->(s.app oi.dst ei).hp k=s.hp k:=fun k hk=>by
   refine ir _ _ _ fun y hy he=>?_;obtain⟨d,m,hd,hm⟩:=((oe hi).2.1 hA y hy).2;obtain⟨d',m',hd',hm'⟩:=hk;have b1:=hbi d hd;have b2:=hbj d' hd';have:d=d':=by omega
   subst this;exact h2 d hd hd'
  constructor
  ·exact eE (ek h1).symm (eW (fun x hx=>(hev x hx).symm) (fun hN x hx i hid=>(hhp x hx i (by rw[← hev x hx]; exact hid)).symm) (fun hN _ k hk=>(hfr k hk).symm) (fun h=>absurd h hnW))
  ·intro _;exact eE (ek h1) (eW hev (fun _=>hhp) (fun _ _=>hfr) (fun h=>absurd h hnW))
 ·obtain⟨hP,hR⟩:=hP;have hnW:cls Γ oj ≠ .W:=by rw[hR]; simp
  have hbx:inL Γ.mv oj.dst=false\/inL Γ.mv oj.dst=true:=by cases inL Γ.mv oj.dst <;> simp
  have hRR:inL Γ.mv oj.dst=false/\(inL Γ.bx oj.dst && mc oj.op)=true\/∀ q,mc oj.op=q->(inL Γ.mv oj.dst && q)=false/\(inL Γ.bx oj.dst && q)=true:=by
   right;rintro q rfl;have hR':=hR;unfold cls at hR';split at hR'
   ·cases hR'
   split at hR'
   ·cases hR'
   split at hR'
   ·cases hR'
   ·rename_i h;split at hR'
    ·rename_i h'; exact⟨by simpa using h,h'⟩
    ·exact absurd hR' CT
  have hb:(inL Γ.mv oj.dst && mc oj.op)=false/\(inL Γ.bx oj.dst && mc oj.op)=true:=by
   rcases hRR with⟨h,h'⟩ | h
   ·exact⟨by rw[h]; rfl,h'⟩
   ·exact h _ rfl
  have hmvf:inL Γ.mv oj.dst=false:=by
   have h5:=hb.1;have h6:=hb.2;rw[Bool.and_eq_true] at h6;rw[h6.2] at h5
   simpa using h5
  have hPc:=hP;have hP:=(oe hi).2.2 hP;have hupd:∀ i,(∃ t cs,s.hp i=some (.box t cs))->(s.app oi.dst ei).hp i=s.hp i:=fun i ⟨t,cs,hi2⟩=>by
   refine ir _ _ _ fun y hy he=>?_;rcases (hP y hy).1 with h | h
   ·rw[he,hi2] at h; cases h
   ·exact h t cs (by rw[he,hi2])
  have hback:∀ i,(∃ t cs,(s.app oi.dst ei).hp i=some (.box t cs))->(s.app oi.dst ei).hp i=s.hp i:=fun i ⟨t,cs,hi2⟩ =>
   vv _ _ _ (fun y hy=>(hP y hy).2.1) hi2
  have hback2:∀ i,s.hp i≠none->(∃ t z l,(s.app oi.dst ei).hp i=some (.arr t z l))->(s.app oi.dst ei).hp i=s.hp i:=fun i hn ⟨t,z,l,hi2⟩ =>
   vx _ _ _ (fun y hy he=>by
    rcases (hP y hy).2.2 with h | h
    ·exact h
    ·rw[he] at h; exact absurd h hn) hi2
  have hno:∀ s,Stp P Γ s oj ej->∀ x∈Op.bL oj.op,∀ i∈(s.ev x).ids,if vl oj.op=true then ∃ t z l,s.hp i=some (.arr t z l) else ∃ t cs,s.hp i=some (.box t cs):=fun s h=>by
   have hmo:mc oj.op=true:=by have h6:=hb.2; rw[Bool.and_eq_true] at h6; exact h6.2
   unfold Stp at h;split at h
   ·rename_i hop; rw[hop] at hmo; cases hmo
   ·exact h.2.2.1 hmvf hb.2
  constructor
  ·exact eE (ek h1).symm fun hst=>eW (fun x hx=>(hev x hx).symm) (fun _ x hx i hid=>by
    have h7:=hno _ hst x hx i hid;have h8:s.hp i≠none:=hwf.ev x i (by rw[← hev x hx]; exact hid);split at h7
    ·exact (hback2 i h8 h7).symm
    ·exact (hback i h7).symm) (fun _ h=>absurd hR h) (fun h=>absurd h hnW) hst
  ·intro hsl;have hsl':vl oj.op=false:=by
    cases h:vl oj.op with
    | false=>rfl
    | true=>exact absurd hPc (hsl h)
   exact eE (ek h1) fun hst=>eW hev (fun _ x hx i hid=>by
    have h7:=hno _ hst x hx i hid;rw[hsl',if_neg (by simp)] at h7;exact hupd i h7) (fun _ h=>absurd hR h) (fun h=>absurd h hnW) hst
theorem nA {s:St} {oi oj:Oper} {ei ej:Eff} (hap:oj.apart ops.toArray oi=true) (hw:ej.wr=[]) (hi:fR P Γ ops s oi ei):fR P Γ ops (s.app oj.dst ej) oi ei:=by
 obtain⟨h1,h2,h3⟩:=Oper.apart_spec hap;have hev:∀ x∈Op.bL oi.op,(s.app oj.dst ej).ev x=s.ev x:=fun x hx=>lS fun k hk hxk=>h1 k hk (hU (by rw[← hxk]; exact hx));have hh:(s.app oj.dst ej).hp=s.hp:=by show eM s.hp ej.wr=s.hp; rw[hw]; rfl
 exact eE (ek h1) (eW hev (fun _ x hx i hid=>by rw[hh]) (fun _ _ k hk=>by rw[hh]) (fun _=>hh)) hi
theorem qK {s s':St} {σ:Ren} {x:aJ} {p:PV} (h:∀ i,s.hp i≠none->s'.hp i=s.hp i) (hs:ky σ s x p):ky σ s' x p:=by
 unfold ky at hs ⊢;split at hs <;> first | exact hs | trivial | skip
 ·rename_i o l;have hn:s.hp o≠none:=fun e=>by rw[e] at hs; exact hs.1.elim
  rw[h o hn]; exact hs
 ·rename_i o k m;have hn:s.hp o≠none:=fun e=>by rw[e] at hs; exact hs.1.elim
  rw[h o hn]; exact hs
theorem tI {s s':St} {σ:Ren} (h:∀ i,s.hp i≠none->s'.hp i=s.hp i):∀ {xs:List aJ} {ps:List PV},kJ σ s xs ps->kJ σ s' xs ps
 | [],[],hs=>hs
 | [],_::_,hs=>hs.elim
 | _::_,[],hs=>hs.elim
 | _::_,_::_,hs=>⟨qK h hs.1,tI h hs.2⟩
theorem xK {s s':St} {σ:Ren} (h:∀ i,s.hp i≠none->s'.hp i=s.hp i):∀ {xs:List aJ} {l:List (List PV)},vb σ s xs l->vb σ s' xs l
 | [],[],hs=>hs
 | [],_::_,hs=>hs.elim
 | _::_,[],hs=>hs.elim
 | _::_,y::_,hs=>by
  refine⟨?_,xK h hs.2⟩;have h1:=hs.1;split at h1
  ·exact qK h h1
  ·exact h1.elim
theorem xL {s s':St} {σ:Ren} {hps:List (Nat×df)} {x y:aJ} (h:∀ i,s.hp i≠none->s'.hp i=s.hp i) (hs:nu σ s hps x y):nu σ s' hps x y:=by
 unfold nu at hs ⊢;split at hs <;> first | exact hs | trivial | skip
 ·rename_i o l;have hn:s.hp o≠none:=fun e=>by rw[e] at hs; exact hs.1.elim
  rw[h o hn];refine⟨?_,hs.2⟩;have h3:=hs.1;split at h3
  ·exact h3
  ·exact xK h h3
  ·exact h3.elim
 ·rename_i o a b z l;have hn:s.hp o≠none:=fun e=>by rw[e] at hs; exact hs.2.1.elim
  rw[h o hn]; exact hs
 ·exact qK h hs
 ·rename_i o f cs f2;obtain⟨h1,h2,h3⟩:=hs;have hn:s.hp o≠none:=fun e=>by rw[e] at h2; exact h2.elim
  refine⟨h1,?_,h3⟩;rw[h o hn];split at h2
  ·exact tI h h2
  ·exact h2.elim
theorem og {s s':St} {σ:Ren} {hps:List (Nat×df)} (h:∀ i,s.hp i≠none->s'.hp i=s.hp i):∀ {xs ys:List aJ},kz σ s hps xs ys->kz σ s' hps xs ys
 | [],[],hs=>hs
 | [],_::_,hs=>hs.elim
 | _::_,[],hs=>hs.elim
 | _::_,_::_,hs=>⟨xL h hs.1,og h hs.2⟩
theorem xM {s s':St} {σ:Ren} {hps:List (Nat×df)} {x y:Cmp} (h:∀ i,s.hp i≠none->s'.hp i=s.hp i) (hs:sF σ s hps x y):sF σ s' hps x y:=by
 unfold sF at hs ⊢;split at hs
 ·exact xL h hs
 ·exact og h hs
 ·exact hs.elim
theorem vy {s s':St} {σ:Ren} {hps:List (Nat×df)} (h:∀ i,s.hp i≠none->s'.hp i=s.hp i):∀ {xs ys:List Cmp},qv σ s hps xs ys->qv σ s' hps xs ys
 | [],[],hs=>hs
 | [],_::_,hs=>hs.elim
 | _::_,[],hs=>hs.elim
 | _::_,_::_,hs=>⟨xM h hs.1,vy h hs.2⟩
theorem FY {s s':St} {σ:Ren} {hps:List (Nat×df)} {x y:Slot} (h:∀ i,s.hp i≠none->s'.hp i=s.hp i) (hs:o9 σ s hps x y):o9 σ s' hps x y:=by
 unfold o9 at hs ⊢;split at hs
 ·trivial
 ·exact xM h hs
 ·exact vy h hs
 ·exact hs.elim
theorem vA {s s':St} {σ:Ren} {hps:List (Nat×df)} (h:∀ i,s.hp i≠none->s'.hp i=s.hp i):∀ {xs ys:List Slot},tD σ s hps xs ys->tD σ s' hps xs ys
 | [],[],hs=>hs
 | [],_::_,hs=>hs.elim
 | _::_,[],hs=>hs.elim
 | _::_,_::_,hs=>⟨FY h hs.1,vA h hs.2⟩
theorem FZ {o:Oper} (h:uc o.op=true):∃ f a t,o.op = .call ⟨.value f,a,t⟩:=by
 unfold uc at h;split at h
 ·rename_i f a t hop; exact⟨_,_,_,hop⟩
 ·cases h
theorem CW {o:Oper} (h:Nn o.op=true):(∃ t,o.op = .alloc t)\/∃ t n ps,o.op = .buildSlice t n ps/\ps.toList=[]:=by
 unfold Nn at h;split at h
 ·rename_i t hop; exact .inl ⟨t,hop⟩
 ·rename_i t n ps hop; exact .inr ⟨t,n,ps,hop,by simpa using h⟩
 ·cases h
theorem nB {s:St} {o:Oper} {e:Eff} (h:uc o.op=true):Stp P Γ s o e↔jk P Γ s o e:=by
 obtain⟨f,a,t,hop⟩:=FZ h;unfold Stp;rw[hop]
theorem yW {s:St} {o:Oper} {e:Eff} (h:jk P Γ s o e):∀ x∈e.wr,s.hp x.1≠none\/jb o x.1:=by
 obtain⟨c,fo,f,caps,S,τ,vw,news,ho,hcal,hfo,hcb,hm,hok,hkp,rfl⟩:=h;intro x hx;obtain⟨y,hy,rfl⟩:=List.mem_map.1 hx;have hd:=fv hok.dom y hy;cases hl:aq (τ.map (fun x=>(x.2,x.1))++news) y.1 with
 | none=>exact absurd hl hd
 | some k =>
  have h2:rnN (τ.map (fun x=>(x.2,x.1))++news) y.1=k:=by
   show (aq (τ.map (fun x=>(x.2,x.1))++news) y.1).getD y.1=k;rw[hl]; rfl
  dsimp only;rw[h2];rcases List.mem_append.1 (dD hl) with h3 | h3
  ·obtain⟨x,hx,he⟩:=List.mem_map.1 h3;injection he with e1 e2
   rw[← e2];exact .inl (fv hok.tau x hx).2.1
  ·exact .inr (fv hok.fresh _ h3).2.2
theorem xg {s s':St} {o:Oper} {e:Eff} (hwf:WF s) (hev:∀ x∈Op.bL o.op,s'.ev x=s.ev x) (hmono:∀ i,s.hp i≠none->s'.hp i=s.hp i) (hfr:∀ k,jb o k->s'.hp k=s.hp k)
  (h:jk P Γ s o e):jk P Γ s' o e:=by
 have hwr:=yW h;obtain⟨c,fo,f,caps,S,τ,vw,news,ho,hcal,hfo,hcb,hm,hok,hkp,rfl⟩:=h;have hops:Op.bL o.op=fo::c.args.toList:=by rw[ho]; simp [Op.bL,hcal]
 have hca:ga s' c f caps=ga s c f caps:=by
  unfold ga;rw[List.map_congr_left fun x hx=>hev x (by rw[hops]; exact List.mem_cons_of_mem _ hx)]
 have hids:∀ x∈ga s c f caps,∀ i∈x.ids,s'.hp i=s.hp i:=fun x hx i hi=>by
  refine hmono i ?_;rcases ry hx with hx | hx
  ·obtain⟨y,hy,rfl⟩:=List.mem_map.1 hx;exact hwf.ev y i hi
  ·obtain⟨y,hy,rfl⟩:=List.mem_map.1 hx;refine hwf.ev fo i ?_;rw[hfo];simp [Slot.ids,Cmp.ids,Cmp.leaves,aJ.ids] at hi ⊢;subst hi; exact hy
 refine⟨c,fo,f,caps,S,τ,vw,news,ho,hcal,(hev fo (by rw[hops]; exact List.mem_cons_self)).trans hfo,hcb,hm,?_,fun x hx hk=>?_,rfl⟩
 rotate_left
 ·have e:s'.hp x.1=s.hp x.1:=by
   rcases hwr x hx with h1 | h1
   ·exact hmono _ h1
   ·exact hfr _ h1
  rw[e];exact hkp x hx hk
 rw[hca];refine⟨fun h x hx i hi=>(by
  have:=hok.lt h x hx i hi;rw[hmono i this.1]; exact this),vA hmono hok.args,lK (fun q _ hq=>?_) hok.iA,hok.nd0,hok.nd1,hok.nd2,hok.nd3,lK (fun x _ hx=>⟨hx.1,by rw[hmono _ hx.2.1]; exact hx.2.1,hx.2.2⟩) hok.tau,hok.dom,lK (fun x _ hx=>⟨by rw[hfr x.2 hx.2.2]; exact hx.1,hx.2⟩) hok.fresh,hok.flat,hok.pure⟩
 unfold HSub at hq ⊢;split
 ·rename_i o2 hl;rw[hl] at hq;dsimp only at hq;have hn:s.hp o2≠none:=by
   obtain⟨x,hx,he⟩:=List.mem_map.1 (dD hl);have:=(fv hok.tau x hx).2.1;injection he with e1 e2
   rw[← e2]; exact this
  rw[hmono o2 hn];unfold yL at hq ⊢;split at hq <;> rename_i heq1 <;> first | trivial | skip
  ·exact⟨hq.1,og hmono hq.2⟩
  all_goals first
   | exact hq
   | exact⟨hq.1,og hmono hq.2⟩
 ·rename_i hl;rw[hl] at hq;exact hq
theorem CX {s:St} {o:Oper} {e:Eff} (ha:alF Γ o=true) (h:Stp P Γ s o e):∃ d:Nat,o.dst=some d/\s.hp d=none/\(∀ x∈e.wr,x.1=d)/\∀ s':St,s'.hp d=none->Stp P Γ s' o e:=by
 unfold alF at ha;rw[Bool.and_eq_true] at ha;have hfz:inL Γ.fz o.dst=false:=by simpa using ha.2
 have gen:∀ F:Bool->Option Eff,(∀ s:St,opX P Γ s o=F (aY s.hp o.dst))->F false=none->(∀ e,F true=some e->∀ d,o.dst=some d->∀ x∈e.wr,x.1=d)->(o.dst=none->F true=none)->(∀ s e,Stp P Γ s o e↔opX P Γ s o=some e)->∃ d:Nat,o.dst=some d/\s.hp d=none/\(∀ x∈e.wr,x.1=d)/\∀ s':St,s'.hp d=none->Stp P Γ s' o e:=by
  intro F hx hF1 hF2 hF3 hS;have h:=(hS s e).1 h;rw[hx] at h;cases hd:o.dst with
  | none =>
   cases hf:aY s.hp o.dst with
   | true=>rw[hf,hF3 hd] at h; cases h
   | false=>rw[hf,hF1] at h; cases h
  | some d =>
   cases hf:aY s.hp o.dst with
   | false=>rw[hf,hF1] at h; cases h
   | true =>
    rw[hf] at h;have hf':s.hp d=none/\d<1000000:=by rw[hd] at hf; simpa [aY] using hf
    refine⟨d,rfl,hf'.1,hF2 e h d hd,fun s' hs'=>(hS s' e).2 ?_⟩;rw[hx,hd,show aY s'.hp (some d)=true by simpa [aY] using ⟨hs',hf'.2⟩,h]
 rcases CW ha.1 with⟨t,hop⟩ | ⟨t,n,ps,hop,hps⟩
 ·refine gen (fun b=>jF P t o.dst b []) (fun s=>?_) ?_ ?_ ?_ fun s e=>?_
  ·rw[jc (by rw[hfz,Bool.false_and]),hop];simp only[opE,opY,gQ,opV,fw,fk,Op.bL,List.map_nil]
  ·simp only[jF];split
   ·rfl
   ·rfl
  ·intro e he d hd x hx;simp only[jF] at he;rw[hd] at he;split at he
   ·rename_i d' cs hd' _;injection hd' with hd'
    subst hd';simp only[if_true,Option.some.injEq] at he;rw[← he] at hx
    simpa using congrArg Prod.fst (List.mem_singleton.1 hx)
   ·cases he
  ·intro hd;simp only[jF];rw[hd]
  ·unfold Stp pf;rw[hop];exact⟨fun h=>h.1,fun h=>⟨h,fun _ x hx=>by simp [Op.bL] at hx,fun _ _ x hx=>by simp [Op.bL] at hx,fun k hk=>(by rw[hop] at hk; cases hk)⟩⟩
 ·refine gen (fun b=>orE (dG P t n (ps.toList.map (·.1)) o.dst b []) (fp P t n (ps.toList.map (·.1)) o.dst b [])) (fun s=>?_) ?_ ?_ ?_ fun s e=>?_
  ·rw[jc (by rw[hfz,Bool.false_and]),hop];simp only[opE,opY,opV,Op.bL,hps,List.map_nil]
  ·unfold dG fp orE;split
   ·rename_i e he;split at he
    ·split at he
     ·rename_i hc; exact absurd hc.2.1 (by simp)
     ·cases he
    ·cases he
   ·split
    ·split
     ·rename_i hc; exact absurd hc.2.1 (by simp)
     ·rfl
    ·rfl
  ·intro e he d hd x hx;rw[hd] at he;rcases iE he with he | he
   ·unfold dG at he;split at he
    ·rename_i hd';injection hd' with hd'
     subst hd';split at he
     ·split at he
      ·simp only[Option.some.injEq] at he;rw[← he] at hx
       simpa using congrArg Prod.fst (List.mem_singleton.1 hx)
      ·cases he
     ·cases he
    ·cases he
   ·unfold fp at he;split at he
    ·rename_i hd';injection hd' with hd'
     subst hd';split at he
     ·split at he
      ·simp only[Option.some.injEq] at he;rw[← he] at hx
       simpa using congrArg Prod.fst (List.mem_singleton.1 hx)
      ·cases he
     ·cases he
    ·cases he
  ·intro hd;rw[hd];unfold dG fp orE;split
   ·rename_i e he;split at he
    ·rename_i hd' ; cases hd'
    ·cases he
   ·split
    ·rename_i hd'; cases hd'
    ·rfl
  ·unfold Stp pf;rw[hop];exact⟨fun h=>h.1,fun h=>⟨h,fun _ x hx=>by simp [Op.bL,hps] at hx,fun _ _ x hx=>by simp [Op.bL,hps] at hx,fun k hk=>(by rw[hop] at hk; cases hk)⟩⟩
theorem CY {s:St} {oi oj:Oper} {ei ej:Eff} (hwf:WF s) (hap:oi.apart ops.toArray oj=true) (hap':oj.apart ops.toArray oi=true) (hc:uc oi.op=true\/decide (cls Γ oi = .P)=true) (ha:alF Γ oj=true) (hbi:∀ d:Nat,oi.dst=some d->d<10000) (hbj:∀ d:Nat,oj.dst=some d->d<10000)
  (hi:fR P Γ ops s oi ei) (hj:fR P Γ ops (s.app oi.dst ei) oj ej):fR P Γ ops s oj ej/\fR P Γ ops (s.app oj.dst ej) oi ei/\∀ x∈ei.wr,∀ y∈ej.wr,x.1≠y.1:=by
 obtain⟨h1,h2,h3⟩:=Oper.apart_spec hap;obtain⟨h1',h2',h3'⟩:=Oper.apart_spec hap';rcases hj with⟨hg,hst⟩ | ⟨hg,rfl⟩
 ·obtain⟨d,hd,hfree,hwj,hall⟩:=CX ha hst;have hnot:∀ x∈ei.wr,x.1≠d:=fun x hx he=>by
   exact Au s.hp ei.wr d ⟨x.2,by rw[← he]; exact hx⟩ hfree
  have hd0:s.hp d=none:=by
   have:eM s.hp ei.wr d=s.hp d:=ir _ _ _ fun y hy he=>hnot y hy he;rw[← this]; exact hfree
  refine⟨.inl ⟨(ek h1).symm.trans hg,hall s hd0⟩,?_,fun x hx y hy he=>hnot x hx (he.trans (hwj y hy))⟩;have hoth:∀ i,i≠d->(s.app oj.dst ej).hp i=s.hp i:=fun i hid=>ir _ _ _ fun y hy he=>hid (by rw[← he,hwj y hy]);have hfr:∀ k,jb oi k->(s.app oj.dst ej).hp k=s.hp k:=fun k hk=>hoth k fun e=>by
   obtain⟨d',m',hd',hm'⟩:=hk;have b1:=hbi d' hd';have b2:=hbj d hd;have:d'=d:=by omega
   subst this;exact h2 _ hd' hd
  have hev:∀ x∈Op.bL oi.op,(s.app oj.dst ej).ev x=s.ev x:=fun x hx=>lS fun k hk hxk=>h1' k hk (hU (by rw[← hxk]; exact hx));refine eE (ek h1') (fun h=>?_) hi;rcases hc with hc | hc
  ·rw[nB hc] at h ⊢;exact xg hwf hev (fun i hi=>hoth i fun e=>hi (by rw[e]; exact hd0)) hfr h
  ·have hc:=of_decide_eq_true hc;exact eW hev (fun _ x hx i hid=>hoth i fun e=>hwf.ev x i hid (by rw[e]; exact hd0)) (fun _ _=>hfr) (fun h=>by rw[hc] at h; cases h) h
 ·refine⟨.inr ⟨(ek h1).symm.trans hg,rfl⟩,nA hap' rfl hi,fun x hx y hy=>by cases hy⟩
theorem vB {s:St} {o:Oper} {e:Eff} (hmf:mvF Γ o=true) (h:Stp P Γ s o e):e.wr=[]:=by
 obtain⟨hm,hfz⟩:=vq hmf;have key:(∀ f a t,o.op ≠ .call ⟨.value f,a,t⟩)->orE (opE P o.op o.dst (aY s.hp o.dst) ((Op.bL o.op).map s.arg)) (opY P o.op o.dst (aY s.hp o.dst) ((Op.bL o.op).map s.arg))=some e:=fun hnc=>by
  unfold Stp at h;split at h
  ·rename_i f a t hop; exact absurd hop (hnc f a t)
  ·rw[← jc (Γ:=Γ) (by rw[hfz,Bool.false_and])]; exact h.1
 unfold mc at hm;split at hm <;> rename_i hop <;> first | (cases hm; done) | skip
 all_goals
  have h:=key (by simp [hop]);rw[hop] at h;simp only[opE,opY,gQ,opV,fw,fk] at h
 ·unfold k7 at h;split at h
  ·split at h
   ·rw[Option.bind_eq_some_iff] at h;obtain⟨c,_,h⟩:=h;exact (kM h)
   ·cases h
  ·split at h <;> (try split at h) <;> first | exact (iF h) | cases h
  ·split at h <;> (try split at h) <;> (try split at h) <;> first | exact (iF h) | cases h
  ·cases h
 ·rcases iE h with h | h
  ·unfold eN at h;split at h <;> (try split at h) <;> (try split at h) <;> first | exact (iF h) | cases h
  ·exact nomatch h
 ·unfold iY at h;split at h <;> (try split at h) <;> (try split at h) <;> first | exact (kM h) | exact (iF h) | cases h
 ·split at h
  ·unfold kF at h;split at h <;> (try split at h) <;> first | exact (kM h) | exact (iF h) | cases h
  ·cases h
theorem H3 {o:Oper} (hmf:mvF Γ o=true):cls Γ o ≠ .W:=by
 obtain⟨hm,_⟩:=vq hmf;have h0:ub Γ o = .A:=by
  unfold mc at hm;unfold ub;split at hm <;> rename_i hop <;> first | (cases hm; done) | (rw[hop])
 unfold cls;split
 ·simp
 ·split
  ·simp
  ·split
   ·simp
   ·split
    ·simp
    ·rw[h0]; simp
theorem pO (i:Nat):∀ (l:List (Nat×df)) (hp:Hp),(∀ x∈l,x.1=i->hp i=some x.2)->eM hp l i=hp i
 | [],_,_=>rfl
 | x::l,hp,h=>by
  show eM (upd hp x.1 (some x.2)) l i=hp i;have e:upd hp x.1 (some x.2) i=hp i:=by
   unfold upd;split
   ·rename_i he; exact (h x List.mem_cons_self he.symm).symm
   ·rfl
  rw[pO i l _ fun y hy he=>by rw[e]; exact h y (List.mem_cons_of_mem _ hy) he,e]
theorem xN {s:St} {o:Oper} {e:Eff} (hk:nW Γ o=true) (h:jk P Γ s o e):∀ x∈e.wr,s.hp x.1=none\/s.hp x.1=some x.2:=by
 obtain⟨c,fo,f,caps,S,τ,vw,news,ho,hcal,hfo,hcb,hm,hok,hkp,rfl⟩:=h;exact fun x hx=>hkp x hx (by rw[hk]; rfl)
theorem C0 {s:St} {o:Oper} {e:Eff} {i:Nat} (hk:lB Γ o i=true) (h:jk P Γ s o e):∀ x∈e.wr,x.1=i->s.hp x.1=none\/s.hp x.1=some x.2:=by
 obtain⟨c,fo,f,caps,S,τ,vw,news,ho,hcal,hfo,hcb,hm,hok,hkp,rfl⟩:=h;exact fun x hx he=>hkp x hx (by rw[he,hk,Bool.or_true])
theorem F0 {s:St} {oi oj:Oper} {ei ej:Eff} (hwf:WF s) (hap:oi.apart ops.toArray oj=true) (hap':oj.apart ops.toArray oi=true) (hc:uc oi.op=true) (hk:nW Γ oi=true) (hr:mvF Γ oj=true) (hbi:∀ d:Nat,oi.dst=some d->d<10000) (hbj:∀ d:Nat,oj.dst=some d->d<10000)
  (hi:fR P Γ ops s oi ei) (hj:fR P Γ ops (s.app oi.dst ei) oj ej):fR P Γ ops s oj ej/\fR P Γ ops (s.app oj.dst ej) oi ei/\∀ x∈ei.wr,∀ y∈ej.wr,x.1≠y.1:=by
 obtain⟨h1,h2,h3⟩:=Oper.apart_spec hap;have hw:∀ x∈ei.wr,s.hp x.1≠none\/jb oi x.1:=by
  rcases hi with⟨_,h⟩ | ⟨_,rfl⟩
  ·exact yW ((nB hc).1 h)
  ·intro x hx; cases hx
 have hkeep:∀ x∈ei.wr,s.hp x.1=none\/s.hp x.1=some x.2:=by
  rcases hi with⟨_,h⟩ | ⟨_,rfl⟩
  ·exact xN hk ((nB hc).1 h)
  ·intro x hx; cases hx
 have hsame:∀ i,s.hp i≠none->(s.app oi.dst ei).hp i=s.hp i:=fun i hn=>pO i ei.wr s.hp fun x hx he=>by
  rcases hkeep x hx with h | h
  ·rw[he] at h; exact absurd h hn
  ·rw[← he]; exact h
 have hnone:∀ k,jb oj k->(s.app oi.dst ei).hp k=s.hp k:=fun k hkf=>by
  by_cases hn:s.hp k=none
  ·refine ir _ _ _ fun y hy he=>?_;rcases hw y hy with h | h
   ·rw[he] at h; exact h hn
   ·obtain⟨d,m,hd,hm⟩:=h;obtain⟨d',m',hd',hm'⟩:=hkf;have b1:=hbi d hd;have b2:=hbj d' hd';have:d=d':=by omega
    subst this;exact h2 _ hd hd'
  ·exact hsame k hn
 rcases hj with⟨hg,hst⟩ | ⟨hg,rfl⟩
 ·have hev:∀ x∈Op.bL oj.op,s.ev x=(s.app oi.dst ei).ev x:=fun x hx=>(lS fun k hk hxk=>h1 k hk (hU (by rw[← hxk]; exact hx))).symm;have hst':Stp P Γ s oj ej:=eW hev (fun _ x hx i hi=>by
   rw[← hev x hx] at hi;exact (hsame i (hwf.ev x i hi)).symm) (fun _ _ k hk=>(hnone k hk).symm) (fun h=>absurd h (H3 hr)) hst
  refine⟨.inl ⟨(ek h1).symm.trans hg,hst'⟩,nA hap' (vB hr hst') hi,fun x hx y hy=>?_⟩;rw[vB hr hst'] at hy; cases hy
 ·refine⟨.inr ⟨(ek h1).symm.trans hg,rfl⟩,nA hap' rfl hi,fun x hx y hy=>by cases hy⟩
theorem F1 {s:St} {oi oj:Oper} {ei ej:Eff} (hwf:WF s) (hap:oi.apart ops.toArray oj=true) (hap':oj.apart ops.toArray oi=true) (hc:uc oj.op=true) (hk:nW Γ oj=true) (hr:mvF Γ oi=true) (hbi:∀ d:Nat,oi.dst=some d->d<10000) (hbj:∀ d:Nat,oj.dst=some d->d<10000)
  (hi:fR P Γ ops s oi ei) (hj:fR P Γ ops (s.app oi.dst ei) oj ej):fR P Γ ops s oj ej/\fR P Γ ops (s.app oj.dst ej) oi ei/\∀ x∈ei.wr,∀ y∈ej.wr,x.1≠y.1:=by
 obtain⟨h1,h2,h3⟩:=Oper.apart_spec hap;obtain⟨h1',h2',h3'⟩:=Oper.apart_spec hap';have hnw:ei.wr=[]:=by
  rcases hi with⟨_,h⟩ | ⟨_,rfl⟩
  ·exact vB hr h
  ·rfl
 have hh:s.hp=(s.app oi.dst ei).hp:=by show s.hp=eM s.hp ei.wr; rw[hnw]; rfl
 have hj':fR P Γ ops s oj ej:=eE (ek h1).symm (eW (fun x hx=>(lS fun k hk hxk=>h1 k hk (hU (by rw[← hxk]; exact hx))).symm) (fun _ x hx i hi=>by rw[← hh]) (fun _ _ k hk=>by rw[← hh]) (fun _=>hh)) hj;have hw:∀ x∈ej.wr,s.hp x.1≠none\/jb oj x.1:=by
  rcases hj' with⟨_,h⟩ | ⟨_,rfl⟩
  ·exact yW ((nB hc).1 h)
  ·intro x hx; cases hx
 have hkeep:∀ x∈ej.wr,s.hp x.1=none\/s.hp x.1=some x.2:=by
  rcases hj' with⟨_,h⟩ | ⟨_,rfl⟩
  ·exact xN hk ((nB hc).1 h)
  ·intro x hx; cases hx
 have hsame:∀ i,s.hp i≠none->(s.app oj.dst ej).hp i=s.hp i:=fun i hn=>pO i ej.wr s.hp fun x hx he=>by
  rcases hkeep x hx with h | h
  ·rw[he] at h; exact absurd h hn
  ·rw[← he]; exact h
 have hnone:∀ k,jb oi k->(s.app oj.dst ej).hp k=s.hp k:=fun k hkf=>by
  by_cases hn:s.hp k=none
  ·refine ir _ _ _ fun y hy he=>?_;rcases hw y hy with h | h
   ·rw[he] at h; exact h hn
   ·obtain⟨d,m,hd,hm⟩:=h;obtain⟨d',m',hd',hm'⟩:=hkf;have b1:=hbj d hd;have b2:=hbi d' hd';have:d'=d:=by omega
    subst this;exact h2 _ hd' hd
  ·exact hsame k hn
 refine⟨hj',eE (ek h1') (fun hst=>eW (fun x hx=>lS fun k hk hxk=>h1' k hk (hU (by rw[← hxk]; exact hx))) (fun _ x hx i hi=>hsame i (hwf.ev x i hi)) (fun _ _ k hk=>hnone k hk) (fun h=>absurd h (H3 hr)) hst) hi,fun x hx y hy=>?_⟩;rw[hnw] at hx; cases hx
theorem ML {s:St} {o:Oper} {e:Eff} {t:TypeId} {x v:Operand} (hop:o.op = .store t x v) (h:Stp P Γ s o e):∃ i w,e.wr=[(i,w)]/\i∈(s.ev x).ids/\((∃ bt cs cs',s.hp i=some (.box bt cs)/\w = .box bt cs')\/(∃ a z l l',s.hp i=some (.arr a z l)/\w = .arr a z l')):=by
 have h1:opX P Γ s o=some e:=by
  unfold Stp at h;rw[hop] at h;exact h.1
 rw[jc (by rw[hop]; simp [ko,cW,dO]),hop] at h1;simp only[opE,opY,gQ,opV,fw,fk,Op.bL,List.map_cons,List.map_nil,St.arg] at h1;unfold ma at h1;split at h1
 ·rename_i o' off bt cs c q heq;simp only[List.cons.injEq,Prod.mk.injEq] at heq;obtain⟨⟨e1,e2⟩,_⟩:=heq;have hids:(s.ev x).ids=[o']:=by rw[e1]; rfl
  rw[hids] at e2;simp only[List.map_cons,List.map_nil,List.cons.injEq,and_true] at e2;split at h1
  ·split at h1
   ·injection h1 with h1
    rw[← h1,hids];exact⟨_,_,rfl,by simp,.inl ⟨_,_,_,e2,rfl⟩⟩
   ·cases h1
  ·cases h1
 ·rename_i o' i off z a z' l c q heq;simp only[List.cons.injEq,Prod.mk.injEq] at heq;obtain⟨⟨e1,e2⟩,_⟩:=heq;have hids:(s.ev x).ids=[o']:=by rw[e1]; rfl
  rw[hids] at e2;simp only[List.map_cons,List.map_nil,List.cons.injEq,and_true] at e2;split at h1
  ·split at h1
   ·rename_i hz;injection h1 with h1
    rw[← h1,hids];exact⟨_,_,rfl,by simp,.inr ⟨_,_,_,_,by rw[e2,hz.1],rfl⟩⟩
   ·cases h1
  ·cases h1
 ·cases h1
theorem xO {x y:Oper} (h:FW Γ x y=true):mvF Γ x=true/\cls Γ x = .R/\∃ a b t v,lI x.op=some a/\y.op = .store t (.tmp b) v/\∃ ta tb,(ta≠tb/\(500000<=ta↔500000<=tb))/\FV Γ.bx a ta=true/\FV Γ.bx b tb=true:=by
 unfold FW at h;simp only[Bool.and_eq_true,decide_eq_true_eq] at h;obtain⟨⟨h1,h2⟩,h3⟩:=h;refine⟨h1,h2,?_⟩;split at h3
 ·rename_i a t b v e1 e2;obtain⟨e,he,h4⟩:=List.any_eq_true.1 h3;simp only[Bool.and_eq_true] at h4;obtain⟨e',he',h5⟩:=List.any_eq_true.1 h4.2;simp only[Bool.and_eq_true,Bool.not_eq_true'] at h5;obtain⟨h5,h6,h7⟩:=h5;have h5:=And.intro h5 h6;refine⟨a,b,t,v,e1,e2,e % 1000000,e' % 1000000,⟨?_,by
   rw[beq_iff_eq,Bool.eq_iff_iff] at h7;rw[← Nat.ble_eq,← Nat.ble_eq]; exact h7⟩,List.any_eq_true.2 ⟨e,he,by rw[h4.1,Nat.beq_refl]; rfl⟩,List.any_eq_true.2 ⟨e',he',by rw[h5.1,Nat.beq_refl]; rfl⟩⟩
  intro hx;rw[hx,Nat.beq_refl] at h5;exact absurd h5.2 (by simp)
 ·cases h3
theorem AN {s:St} {o:Oper} {e:Eff} {k t:Nat} (hn:∀ f a t,o.op ≠ .call ⟨.value f,a,t⟩) (hk:lI o.op=some k) (ht:FV Γ.bx k t=true) (h:Stp P Γ s o e):∀ i∈(s.ev (.tmp k)).ids,btP s t i:=by
 unfold Stp at h;split at h
 ·rename_i f a t hop; exact absurd hop (hn f a t)
 ·exact h.2.2.2 k hk t ht
theorem vC {o:Oper} {k:Nat} (hk:lI o.op=some k):∀ f a t,o.op ≠ .call ⟨.value f,a,t⟩:=fun f a t e=>by rw[e] at hk; cases hk
theorem OK {s:St} {oi oj:Oper} {ei ej:Eff} (hap:oi.apart ops.toArray oj=true) (hap':oj.apart ops.toArray oi=true) (hl:FW Γ oi oj=true)
  (hi:fR P Γ ops s oi ei) (hj:fR P Γ ops (s.app oi.dst ei) oj ej):fR P Γ ops s oj ej/\fR P Γ ops (s.app oj.dst ej) oi ei/\∀ x∈ei.wr,∀ y∈ej.wr,x.1≠y.1:=by
 obtain⟨h1,h2,h3⟩:=Oper.apart_spec hap;obtain⟨h1',h2',h3'⟩:=Oper.apart_spec hap';obtain⟨hm,hR,a,b,t,v,ha,hb,ta,tb,hne,hta,htb⟩:=xO hl;have hnw:ei.wr=[]:=by
  rcases hi with⟨_,h⟩ | ⟨_,rfl⟩
  ·exact vB hm h
  ·rfl
 have hh:s.hp=(s.app oi.dst ei).hp:=by show s.hp=eM s.hp ei.wr; rw[hnw]; rfl
 have hj':fR P Γ ops s oj ej:=eE (ek h1).symm (eW (fun x hx=>(lS fun k hk hxk=>h1 k hk (hU (by rw[← hxk]; exact hx))).symm) (fun _ x hx i hi=>by rw[← hh]) (fun _ _ k hk=>by rw[← hh]) (fun _=>hh)) hj;refine⟨hj',?_,fun x hx y hy=>by rw[hnw] at hx; cases hx⟩;refine eE (ek h1') (fun hst=>eW (fun x hx=>lS fun k hk hxk=>h1' k hk (hU (by rw[← hxk]; exact hx))) (fun _ x hx i hi=>?_) (fun _ h=>absurd hR h) (fun h=>by rw[hR] at h; cases h) hst) hi;rcases hj' with⟨_,hs⟩ | ⟨_,rfl⟩
 ·obtain⟨o',w,hw,ho',_⟩:=ML hb hs;show eM s.hp ej.wr i=s.hp i;refine ir _ _ _ fun y hy he=>?_;rw[hw] at hy;rw[List.mem_singleton.1 hy] at he;dsimp only at he;have k1:=AN (vC (by rw[hb]; rfl)) (by rw[hb]; rfl) htb hs o' ho';have hxa:x = .tmp a:=by
   have hx2:=hx;unfold lI at ha;split at ha <;> rename_i hop <;> first | (cases ha; done) | skip
   ·injection ha with ha
    subst ha;rw[hop] at hx2
    simpa [Op.bL] using hx2
   ·have:=(vq hm).1;rw[hop] at this; cases this
  subst hxa;have k2:=AN (vC ha) ha hta hst i hi;rcases k1 with⟨l1,cs,k1⟩ | k1 <;> rcases k2 with⟨l2,cs',k2⟩ | k2
  ·rw[he,k2] at k1;injection k1 with k1
   injection k1 with k1
   exact hne.1 k1
  ·have:=hne.2; omega
  ·have:=hne.2; omega
  ·exact hne.1 (by omega)
 ·rfl
theorem OL {s:St} {oi oj:Oper} {ei ej:Eff} (hap:oi.apart ops.toArray oj=true) (hap':oj.apart ops.toArray oi=true) (hl:FW Γ oj oi=true)
  (hi:fR P Γ ops s oi ei) (hj:fR P Γ ops (s.app oi.dst ei) oj ej):fR P Γ ops s oj ej/\fR P Γ ops (s.app oj.dst ej) oi ei/\∀ x∈ei.wr,∀ y∈ej.wr,x.1≠y.1:=by
 obtain⟨h1,h2,h3⟩:=Oper.apart_spec hap;obtain⟨hm,hR,a,b,t,v,ha,hb,ta,tb,hne,hta,htb⟩:=xO hl;have hnw:ej.wr=[]:=by
  rcases hj with⟨_,h⟩ | ⟨_,rfl⟩
  ·exact vB hm h
  ·rfl
 have hev:∀ x∈Op.bL oj.op,(s.app oi.dst ei).ev x=s.ev x:=fun x hx=>lS fun k hk hxk=>h1 k hk (hU (by rw[← hxk]; exact hx));have hj':fR P Γ ops s oj ej:=eE (ek h1).symm (fun hst=>eW (fun x hx=>(hev x hx).symm) (fun _ x hx i hxi=>?_) (fun _ h=>absurd hR h) (fun h=>by rw[hR] at h; cases h) hst) hj
 ·exact⟨hj',nA hap' hnw hi,fun x hx y hy=>by rw[hnw] at hy; cases hy⟩
 ·rcases hi with⟨_,hs⟩ | ⟨_,rfl⟩
  ·obtain⟨o',w,hw,ho',hty⟩:=ML hb hs;have hxa:x = .tmp a:=by
    have hx2:=hx;unfold lI at ha;split at ha <;> rename_i hop <;> first | (cases ha; done) | skip
    ·injection ha with ha
     subst ha;rw[hop] at hx2
     simpa [Op.bL] using hx2
    ·have:=(vq hm).1;rw[hop] at this; cases this
   subst hxa;have k1:=AN (vC (by rw[hb]; rfl)) (by rw[hb]; rfl) htb hs o' ho';have k2:=AN (vC ha) ha hta hst i hxi;have hio:o'≠i:=fun he=>by
    rcases k1 with⟨l1,cs,k1⟩ | k1 <;> rcases k2 with⟨l2,cs',k2⟩ | k2
    rotate_left
    ·have:=hne.2; omega
    ·have:=hne.2; omega
    ·exact hne.1 (by omega)
    rw[← he] at k2;have:(s.app oi.dst ei).hp o'=some w:=by
     show eM s.hp ei.wr o'=some w;rw[hw];show upd s.hp o' (some w) o'=some w;unfold upd; rw[if_pos rfl]
    rw[this] at k2;injection k2 with k2
    rcases hty with⟨bt,c1,c2,e1,e2⟩ | ⟨_,z,l,l',e1,e2⟩
    ·rw[k1] at e1;injection e1 with e1
     injection e1 with e1 _
     rw[e2] at k2;injection k2 with k2 _
     exact hne.1 (k2.symm.trans e1.symm)
    ·rw[e2] at k2; cases k2
   symm;show eM s.hp ei.wr i=s.hp i;refine ir _ _ _ fun y hy he=>?_;rw[hw] at hy;rw[List.mem_singleton.1 hy] at he;exact hio he
  ·rfl
theorem vD {x y:Oper} (h:xG Γ x y=true):uc x.op=true/\mvF Γ y=true/\cls Γ y = .R/\∃ a i,lI y.op=some a/\FV Γ.bx a (i+500000)=true/\lB Γ x i=true:=by
 unfold xG at h;simp only[Bool.and_eq_true,decide_eq_true_eq] at h;obtain⟨h0,⟨h1,h2⟩,h3⟩:=h;refine⟨h0,h1,h2,?_⟩;split at h3
 ·rename_i a e1;obtain⟨e,he,h4⟩:=List.any_eq_true.1 h3;simp only[Bool.and_eq_true,Nat.ble_eq] at h4;obtain⟨h4,h5,h6⟩:=h4;refine⟨a,e % 1000000-500000,e1,List.any_eq_true.2 ⟨e,he,?_⟩,h6⟩;rw[h4,show e % 1000000-500000+500000=e % 1000000 by omega,Nat.beq_refl]; rfl
 ·cases h3
theorem KM {o:Oper} {a:Nat} {x:Operand} (hm:mvF Γ o=true) (ha:lI o.op=some a) (hx:x∈Op.bL o.op):x = .tmp a:=by
 unfold lI at ha;split at ha <;> rename_i hop <;> first | (cases ha; done) | skip
 ·injection ha with ha
  subst ha;rw[hop] at hx
  simpa [Op.bL] using hx
 ·have:=(vq hm).1;rw[hop] at this; cases this
theorem Ei {s s0:St} {oc o:Oper} {ec e:Eff} {x:Operand} {a i0 i:Nat} (hwf:WF s) (hc:uc oc.op=true) (hm:mvF Γ o=true) (ha:lI o.op=some a) (hb:FV Γ.bx a (i0+500000)=true) (hs:lB Γ oc i0=true)
  (hcall:fR P Γ ops s oc ec) (hst:Stp P Γ s0 o e) (hx:x∈Op.bL o.op) (hi:i∈(s0.ev x).ids) (hi2:i∈(s.ev x).ids):(s.app oc.dst ec).hp i=s.hp i:=by
 have hxa:=KM hm ha hx;subst hxa;have hib:i=i0:=by
  rcases AN (vC ha) ha hb hst i hi with⟨h,_⟩ | h <;> omega
 subst hib;refine pO i ec.wr s.hp fun y hy he=>?_;rcases hcall with⟨_,h⟩ | ⟨_,rfl⟩
 ·rcases C0 hs ((nB hc).1 h) y hy he with h1 | h1
  ·rw[he] at h1; exact absurd h1 (hwf.ev _ i hi2)
  ·rw[← he]; exact h1
 ·cases hy
theorem KN {s:St} {oi oj:Oper} {ei ej:Eff} (hwf:WF s) (hap:oi.apart ops.toArray oj=true) (hap':oj.apart ops.toArray oi=true) (hl:xG Γ oi oj=true)
  (hi:fR P Γ ops s oi ei) (hj:fR P Γ ops (s.app oi.dst ei) oj ej):fR P Γ ops s oj ej/\fR P Γ ops (s.app oj.dst ej) oi ei/\∀ x∈ei.wr,∀ y∈ej.wr,x.1≠y.1:=by
 obtain⟨h1,h2,h3⟩:=Oper.apart_spec hap;obtain⟨hc,hm,hR,a,i0,ha,hb,hs⟩:=vD hl;have hnw:ej.wr=[]:=by
  rcases hj with⟨_,h⟩ | ⟨_,rfl⟩
  ·exact vB hm h
  ·rfl
 have hev:∀ x∈Op.bL oj.op,(s.app oi.dst ei).ev x=s.ev x:=fun x hx=>lS fun k hk hxk=>h1 k hk (hU (by rw[← hxk]; exact hx));have hj':fR P Γ ops s oj ej:=eE (ek h1).symm (fun hst=>eW (fun x hx=>(hev x hx).symm) (fun _ x hx i hxi=>(Ei hwf hc hm ha hb hs hi hst hx hxi (by rw[← hev x hx]; exact hxi)).symm) (fun _ h=>absurd hR h) (fun h=>by rw[hR] at h; cases h) hst) hj;exact⟨hj',nA hap' hnw hi,fun x hx y hy=>by rw[hnw] at hy; cases hy⟩
theorem KO {s:St} {oi oj:Oper} {ei ej:Eff} (hwf:WF s) (hap:oi.apart ops.toArray oj=true) (hap':oj.apart ops.toArray oi=true) (hl:xG Γ oj oi=true)
  (hi:fR P Γ ops s oi ei) (hj:fR P Γ ops (s.app oi.dst ei) oj ej):fR P Γ ops s oj ej/\fR P Γ ops (s.app oj.dst ej) oi ei/\∀ x∈ei.wr,∀ y∈ej.wr,x.1≠y.1:=by
 obtain⟨h1,h2,h3⟩:=Oper.apart_spec hap;obtain⟨h1',h2',h3'⟩:=Oper.apart_spec hap';obtain⟨hc,hm,hR,a,i0,ha,hb,hs⟩:=vD hl;have hnw:ei.wr=[]:=by
  rcases hi with⟨_,h⟩ | ⟨_,rfl⟩
  ·exact vB hm h
  ·rfl
 have hh:s.hp=(s.app oi.dst ei).hp:=by show s.hp=eM s.hp ei.wr; rw[hnw]; rfl
 have hj':fR P Γ ops s oj ej:=eE (ek h1).symm (eW (fun x hx=>(lS fun k hk hxk=>h1 k hk (hU (by rw[← hxk]; exact hx))).symm) (fun _ x hx i hi=>by rw[← hh]) (fun _ _ k hk=>by rw[← hh]) (fun _=>hh)) hj;refine⟨hj',?_,fun x hx y hy=>by rw[hnw] at hx; cases hx⟩;exact eE (ek h1') (fun hst=>eW (fun x hx=>lS fun k hk hxk=>h1' k hk (hU (by rw[← hxk]; exact hx))) (fun _ x hx i hxi=>Ei hwf hc hm ha hb hs hj' hst hx hxi hxi) (fun _ h=>absurd hR h) (fun h=>by rw[hR] at h; cases h) hst) hi
theorem H4 {s:St} {oi oj:Oper} {ei ej:Eff} (hd:∀ d,oi.dst=some d->oj.dst≠some d) (hw:∀ x∈ei.wr,∀ y∈ej.wr,x.1≠y.1):(s.app oi.dst ei).app oj.dst ej=(s.app oj.dst ej).app oi.dst ei:=by
 have h1:((s.app oi.dst ei).app oj.dst ej).tm=((s.app oj.dst ej).app oi.dst ei).tm:=by
  funext t
  simp only[CV];by_cases h1:oi.dst=some t
  ·rw[if_pos h1,if_neg (hd t h1)];simp [h1]
  ·rw[if_neg h1];simp [h1]
 have h2:((s.app oi.dst ei).app oj.dst ej).hp=((s.app oj.dst ej).app oi.dst ei).hp:=xI ei.wr ej.wr s.hp hw;cases hx:(s.app oi.dst ei).app oj.dst ej;cases hy:(s.app oj.dst ej).app oi.dst ei;rw[hx,hy] at h1 h2;dsimp only at h1 h2;rw[h1,h2]
theorem H5 {s:St} {oi oj:Oper} {ei ej:Eff} (hap:oi.apart ops.toArray oj=true) (hc:me Γ oi oj=true) (hbi:∀ d:Nat,oi.dst=some d->d<10000) (hbj:∀ d:Nat,oj.dst=some d->d<10000)
  (hi:fR P Γ ops s oi ei) (hj:fR P Γ ops s oj ej):∀ x∈ei.wr,∀ y∈ej.wr,x.1≠y.1:=by
 intro x hx y hy he;have hcases:ei.wr=[]\/ej.wr=[]\/(cls Γ oi = .A/\cls Γ oj = .A):=by
  have hc:=ru hc;have hw:=(oe hi).1;have hw':=(oe hj).1;cases hci:cls Γ oi <;> cases hcj:cls Γ oj <;> rw[hci,hcj] at hc <;> first | (cases hc; done) | (exact .inl (hw (.inl hci))) | (exact .inl (hw (.inr hci))) | (exact .inr (.inl (hw' (.inl hcj)))) | (exact .inr (.inl (hw' (.inr hcj)))) | (exact .inr (.inr ⟨rfl,rfl⟩))
 rcases hcases with h | h | ⟨h,h'⟩
 ·rw[h] at hx; cases hx
 ·rw[h] at hy; cases hy
 ·obtain⟨_,d,m,hd,hm⟩:=(oe hi).2.1 h x hx;obtain⟨_,d',m',hd',hm'⟩:=(oe hj).2.1 h' y hy;have b1:=hbi d hd;have b2:=hbj d' hd';have:d=d':=by omega
  subst this;exact (Oper.apart_spec hap).2.1 d hd hd'
def yX (ops:Array Oper) (j:Nat):Nat :=
 match ops[j]? with
 | some o=>o.after.toList.foldl (fun m e=>cond (Region.binds .any e) (m ||| 2 ^ e.on) m) 0
 | none=>0
def vE (ops:Array Oper):Nat->Nat->Nat
 | 0,m=>m
 | i+1,m=>cond (m.testBit i) (vE ops i (m ||| yX ops i)) (vE ops i m)
def waits (ops:Array Oper) (_ j i:Nat):Bool:=(vE ops j (yX ops j)).testBit i
def yY (ops:Array Oper) (listed:Array Bool):Prop := ∀ (j:Nat) o,ops[j]?=some o->listed.getD j false=true->∀ e∈o.after,Region.binds .any e=true->listed.getD e.on false=true
theorem xP:∀ (l:List Edge) (m0 i:Nat),(l.foldl (fun m e=>cond (Region.binds .any e) (m ||| 2 ^ e.on) m) m0).testBit i=true->m0.testBit i=true\/∃ e∈l,Region.binds .any e=true/\e.on=i
 | [],m0,i,h=>.inl h
 | e::l,m0,i,h=>by
  rw[List.foldl_cons] at h;rcases xP l _ i h with h1 | ⟨e',he',h1⟩
  ·cases hb:Region.binds .any e with
   | true =>
    rw[hb,cond_true,Nat.testBit_or,Bool.or_eq_true] at h1;rcases h1 with h1 | h1
    ·exact .inl h1
    ·rw[Nat.testBit_two_pow,decide_eq_true_eq] at h1;exact .inr ⟨e,List.mem_cons_self,hb,h1⟩
   | false =>
    rw[hb,cond_false] at h1;exact .inl h1
  ·exact .inr ⟨e',List.mem_cons_of_mem _ he',h1⟩
theorem rz {ops:Array Oper} {listed:Array Bool} {j i:Nat} (hj:∀ o,ops[j]?=some o->∀ e∈o.after,Region.binds .any e=true->listed.getD e.on false=true) (h:(yX ops j).testBit i=true):listed.getD i false=true:=by
 unfold yX at h;split at h
 ·rename_i o ho;rcases xP _ _ _ h with h1 | ⟨e,he,hb,rfl⟩
  ·rw[Nat.zero_testBit] at h1; cases h1
  ·exact hj o ho e (Array.mem_toList_iff.1 he) hb
 ·rw[Nat.zero_testBit] at h; cases h
theorem oh {ops:Array Oper} {listed:Array Bool} (hcl:yY ops listed):∀ (k m:Nat),(∀ i,m.testBit i=true->listed.getD i false=true)->∀ i,(vE ops k m).testBit i=true->listed.getD i false=true
 | 0,m,hm,i,h=>hm i h
 | k+1,m,hm,i,h=>by
  unfold vE at h;cases hb:m.testBit k with
  | true =>
   rw[hb,cond_true] at h;refine oh hcl k _ (fun i hi=>?_) i h;rw[Nat.testBit_or,Bool.or_eq_true] at hi;rcases hi with hi | hi
   ·exact hm i hi
   ·exact rz (fun o ho=>hcl k o ho (hm k hb)) hi
  | false =>
   rw[hb,cond_false] at h;exact oh hcl k m hm i h
theorem yZ {ops:Array Oper} {listed:Array Bool} (hcl:yY ops listed):∀ (f j i:Nat),(∀ o,ops[j]?=some o->∀ e∈o.after,Region.binds .any e=true->listed.getD e.on false=true)->waits ops f j i=true->listed.getD i false=true :=
 fun f j i hj h=>oh hcl j _ (fun i hi=>rz hj hi) i h
def H6 (P:Program) (Γ:Opt) (ops:List Oper) (K:St->Prop):Nat->Array Bool->St->Prop
 | 0,listed,s=>Region.ready .any ops.toArray listed=[]/\K s
 | f+1,listed,s=>(Region.ready .any ops.toArray listed=[]->K s) /\
  ∀ i∈Region.ready .any ops.toArray listed,∃ o e,ops[i]?=some o/\fR P Γ ops s o e/\e.cond/\H6 P Γ ops K f (listed.setIfInBounds i true) (s.app o.dst e)
section
variable {w0:World} {χ0:Col} {T0:Ctx} {n:Nat} {K:St->Prop}
def xQ (w0:World) (χ0:Col) (T0:Ctx) (n:Nat) (s:St):Prop := ∃ a w,bG w0 χ0 T0 n s a w
theorem Oper.F2 {o:Oper} {a:Act} {w:World} {K:Act->World->Prop} (h:o.wp P a w K (fun _ _ _=>False)):∃ a' w',K a' w':=by
 unfold Oper.wp at h;generalize (execOp a.eval o).run P w=r at h;cases r with
 | ok nx w' =>
  cases nx <;> simp only[Oper.upon] at h
  case value v=>exact⟨_,_,h⟩
  case skip=>exact⟨_,_,h⟩
  case defer d=>exact⟨_,_,h⟩
  case enter f args =>
   obtain⟨e,w'',fr,hR,_⟩:=h [];cases e with
   | returned v=>exact⟨_,_,hR⟩
   | panicked c=>exact hR.elim
   | outgrown=>obtain⟨_,_,h⟩:=hR; exact h.elim
  case row r args =>
   obtain⟨v,w'',hR,_⟩:=h default [];exact⟨_,_,hR⟩
 | halt x w'=>cases x <;> simp only[Oper.upon] at h
theorem xR {o:Oper} {e:Eff} (hdn:∀ o∈ops,∀ k,o.dst=some k->k<n) (ho:o∈ops) (hl:xQ w0 χ0 T0 n s) (h:fR P Γ ops s o e) (hc:e.cond):xQ w0 χ0 T0 n (s.app o.dst e):=by
 obtain⟨a,w,ha⟩:=hl;have:=vo (Q:=fun _ _ _=>False) hdn ho ha h hc (K:=fun a' w'=>bG w0 χ0 T0 n (s.app o.dst e) a' w') (fun _ _ h=>h);split at this
 ·rcases this with h | ⟨_,_,_,h⟩
  ·exact Oper.F2 h
  ·exact h.elim
 ·exact⟨_,_,this⟩
theorem om (hl:xQ w0 χ0 T0 n s):WF s:=by obtain⟨a,w,_,G,r⟩:=hl; exact FX r
theorem C1 (hdn:∀ o∈ops,∀ k,o.dst=some k->k<n) (hb:∀ o∈ops,∀ k:Nat,o.dst=some k->k<10000) {i:Nat} {oi:Oper} {f0:Nat} (hi:ops[i]?=some oi) :
  ∀ (fuel:Nat) (listed:Array Bool) (s:St) (ei:Eff),xQ w0 χ0 T0 n s->yY ops.toArray listed->(∀ j oj,ops[j]?=some oj->j≠i->listed.getD j true=false->waits ops.toArray f0 j i=true\/(oi.apart ops.toArray oj=true/\yV Γ oi oj=true)) ->
   i∈Region.ready .any ops.toArray listed->fR P Γ ops s oi ei->ei.cond->H6 P Γ ops K fuel (listed.setIfInBounds i true) (s.app oi.dst ei)->H6 P Γ ops K (fuel+1) listed s:=by
 intro fuel;induction fuel with
 | zero =>
  intro listed s ei hl hcl hfree hr he hc H;refine⟨fun h=>(by rw[h] at hr; cases hr),fun j hj=>?_⟩;by_cases hji:j=i
  ·subst hji; exact⟨oi,ei,hi,he,hc,H⟩
  ·have:=ready_mono hj hji;rw[H.1] at this;cases this
 | succ fuel ih =>
  intro listed s ei hl hcl hfree hr he hc H;refine⟨fun h=>(by rw[h] at hr; cases hr),fun j hj=>?_⟩;by_cases hji:j=i
  ·subst hji; exact⟨oi,ei,hi,he,hc,H⟩
  ·obtain⟨oj,ej,hoj,hej,hcj,hjK⟩:=H.2 j (ready_mono hj hji);obtain⟨hjun,oj',hoj',hall⟩:=mem_ready.1 hj;have hoj'':ops[j]?=some oj':=by simpa using hoj'
   rw[hoj] at hoj'';injection hoj'' with hoj''
   subst hoj'';have hiun:=(mem_ready.1 hr).1;have hcm:oi.apart ops.toArray oj=true/\yV Γ oi oj=true:=by
    rcases hfree j oj hoj hji hjun with h | h
    ·have:=yZ hcl f0 j i (fun o ho e he hb=>by rw[hoj'] at ho; injection ho with ho; subst ho; exact hall e he hb) h;rcases Nat.lt_or_ge i listed.size with h' | h'
     ·simp [h'] at this hiun; rw[hiun] at this; cases this
     ·simp [Array.getElem?_eq_none h'] at this
    ·exact h
   have hbi:=hb oi (List.mem_of_getElem? hi);have hbj:=hb oj (List.mem_of_getElem? hoj);have hap':oj.apart ops.toArray oi=true:=by
    obtain⟨a1,a2,a3⟩:=Oper.apart_spec hcm.1;unfold Oper.apart;rw[Bool.and_eq_true];constructor
    ·split
     ·rename_i d hd;rw[Bool.and_eq_true];exact⟨by simpa using a3 d hd,by simp only[bne_iff_ne]; exact fun h=>a2 d h hd⟩
     ·rfl
    ·split
     ·rename_i d hd
      simpa using a1 d hd
     ·rfl
   have three:fR P Γ ops s oj ej/\fR P Γ ops (s.app oj.dst ej) oi ei/\∀ x∈ei.wr,∀ y∈ej.wr,x.1≠y.1:=by
    have hcc:=hcm.2;unfold yV at hcc;simp only[Bool.or_eq_true,Bool.and_eq_true] at hcc;rcases hcc with (hc0 | (hca | hca) | hca | hca | hca) | (hca | hca)
    ·have hej':fR P Γ ops s oj ej:=(xJ (om hl) hcm.1 hc0 hbi hbj he).1 hej;refine⟨hej',?_,H5 hcm.1 hc0 hbi hbj he hej'⟩;by_cases hps:vl oj.op=true/\cls Γ oi = .P
     ·have hc2:=ru hc0;rw[hps.2] at hc2;refine nA hap' ((oe hej').1 ?_) he;cases hcj2:cls Γ oj <;> rw[hcj2] at hc2 <;> first | (cases hc2; done) | exact .inl rfl | exact .inr rfl
     ·have hcm':me Γ oj oi=true:=by
       unfold me;rw[CS,ru hc0,Bool.true_and];cases h1:vl oj.op with
       | false=>rfl
       | true =>
        have:cls Γ oi ≠ .P:=fun h2=>hps ⟨h1,h2⟩;rw[decide_eq_false this]; rfl
      exact (xJ (om hl) hap' hcm' hbj hbi hej').2 (HX hc0) he
    ·exact OK hcm.1 hap' hca he hej
    ·exact OL hcm.1 hap' hca he hej
    ·exact CY (om hl) hcm.1 hap' hca.1 hca.2 hbi hbj he hej
    ·exact F0 (om hl) hcm.1 hap' hca.1 hca.2.1 hca.2.2 hbi hbj he hej
    ·exact F1 (om hl) hcm.1 hap' hca.1 hca.2.1 hca.2.2 hbi hbj he hej
    ·exact KN (om hl) hcm.1 hap' hca he hej
    ·exact KO (om hl) hcm.1 hap' hca he hej
   obtain⟨hej',hei',hwa⟩:=three;have hl':xQ w0 χ0 T0 n (s.app oj.dst ej):=xR hdn (List.mem_of_getElem? hoj) hl hej' hcj;refine⟨oj,ej,hoj,hej',hcj,ih (listed.setIfInBounds j true) _ ei hl' ?_ ?_ (ready_mono hr (Ne.symm hji)) hei' hc ?_⟩
   ·intro m o ho hm e he hbd;by_cases hmj:m=j
    ·subst hmj;rw[hoj'] at ho;injection ho with ho
     subst ho;exact getD_set_true (hall e he hbd)
    ·rw[getD_set_ne false (Ne.symm hmj)] at hm;exact getD_set_true (hcl m o ho hm e he hbd)
   ·intro k ok hk hki hun;refine hfree k ok hk hki ?_;by_cases hjk:j=k
    ·subst hjk; exact hjun
    ·rw[getD_set_ne true hjk] at hun; exact hun
   ·rw[Array.setIfInBounds_comm _ _ hji];have hcom:=H4 (s:=s) (ei:=ei) (ej:=ej) (Oper.apart_spec hcm.1).2.1 hwa;rw[← hcom]; exact hjK
end
end
end Go.Lad
