import Derived.Test.YtcppfkflcigjcaaGreatDoorFD
import Derived.RangeFuncNested
import Derived.OrdersIn
set_option linter.unusedVariables false
set_option linter.unusedSimpArgs false
set_option linter.unusedSectionVars false
namespace Go.Lad
open Go.RowKit
inductive Cls where
 | N | A | W | R | P
 deriving DecidableEq
def wu (Γ:Opt) (o:Oper):Cls :=
 match o.op with
 | .move _ | .assign _ | .pick _ _ _ | .nilCheck _ | .fieldAddr _ _ _ | .field _ _ _ | .binOp _ _ _ _ _ | .unOp _ _ _ | .extract _ _ | .build _ _ | .index _ _ _ | .makeFunc _ _ _=>.N
 | .call { callee := .builtin .min,.. } | .call { callee := .builtin .max,.. }=>.N
 | .load _ _ | .indexAddr _ _ _ | .alloc _ | .buildSlice _ _ _ | .makeMap _ _ | .lookup _ _ _ _ | .slice _ _ _ _ none | .convert _ _ _ | .box _ _ | .makeSlice _ _ _=>.A
 | .call { callee := .builtin .len,.. }=>.A
 | .call { callee := .value _,.. }=>if oT Γ o then .A else .W
 | .call { callee := .builtin .append,.. }=>.P
 | _=>.W
def cls (Γ:Opt) (o:Oper):Cls:=if inL Γ.fz o.dst && cE o.op then .N else if inL Γ.fz o.dst && dB o.op then .P else if inL Γ.mv o.dst && oA o.op then .N else if inL Γ.bx o.dst && oA o.op then .R else wu Γ o
def Ga:Cls->Cls->Bool
 | .N,_=>true
 | _,.N=>true
 | .A,.A=>true
 | .A,.R=>true
 | .R,.A=>true
 | .R,.R=>true
 | .R,.P=>true
 | .P,.R=>true
 | _,_=>false
def oB (Γ:Opt) (x y:Oper):Bool:=Ga (cls Γ x) (cls Γ y) && !(xv x.op && decide (cls Γ y = .P))
theorem EH (a b:Cls):Ga a b=Ga b a:=by cases a <;> cases b <;> rfl
theorem ua {Γ:Opt} {x y:Oper} (h:oB Γ x y=true):Ga (cls Γ x) (cls Γ y)=true:=by
 unfold oB at h;rw[Bool.and_eq_true] at h;exact h.1
theorem JM {Γ:Opt} {x y:Oper} (h:oB Γ x y=true):xv x.op=true->cls Γ y ≠ .P:=by
 unfold oB at h;rw[Bool.and_eq_true] at h;intro h1 h2;have:=h.2;rw[h1,h2] at this;cases this
def wv:Op->Bool
 | .call { callee := .value _,.. }=>true
 | _=>false
def Pt:Op->Bool
 | .alloc _=>true
 | .buildSlice _ _ ps=>ps.toList.isEmpty
 | _=>false
def alF (Γ:Opt) (o:Oper):Bool:=Pt o.op && !inL Γ.fz o.dst
def mvF (Γ:Opt) (o:Oper):Bool:=oA o.op && !inL Γ.fz o.dst
def H3 (Γ:Opt) (x y:Oper):Bool :=
 (mvF Γ x && decide (cls Γ x = .R)) && (match nP x.op,y.op with
  | some a,.store _ (.tmp b) _=>Γ.bx.any fun e=>Nat.beq (e / 1000000) (a+1) && Γ.bx.any fun e'=>Nat.beq (e' / 1000000) (b+1) && (!Nat.beq (e % 1000000) (e' % 1000000) && (Nat.ble 500000 (e % 1000000) == Nat.ble 500000 (e' % 1000000)))
  | _,_=>false)
def zL (Γ:Opt) (x y:Oper):Bool :=
 wv x.op && ((mvF Γ y && decide (cls Γ y = .R)) && (match nP y.op with
  | some a=>Γ.bx.any fun e=>Nat.beq (e / 1000000) (a+1) && (Nat.ble 500000 (e % 1000000) && nE Γ x (e % 1000000-500000))
  | none=>false))
def Bf (Γ:Opt) (x y:Oper):Bool:=oB Γ x y || ((H3 Γ x y || H3 Γ y x) || (((wv x.op || decide (cls Γ x = .P)) && alF Γ y) || ((wv x.op && (qp Γ x && mvF Γ y)) || (wv y.op && (qp Γ y && mvF Γ x))))) || (zL Γ x y || zL Γ y x)
theorem xx {Γ:Opt} {o:Oper} (h:mvF Γ o=true):oA o.op=true/\inL Γ.fz o.dst=false:=by unfold mvF at h; rw[Bool.and_eq_true] at h; exact⟨h.1,by simpa using h.2⟩
theorem EI {Γ:Opt} {o:Oper}:wu Γ o ≠ .R:=by
 unfold wu;split <;> (try split) <;> simp
theorem JN (op:Op) (x:Operand) (h:x∈Op.bq op):x∈op.operands:=by
 cases op <;> simp only[Op.bq,Op.operands] at h ⊢ <;> first
  | (simp at h; done)
  | (simpa using h)
  | skip
 case call c =>
  unfold Call.operands;cases hc:c.callee <;> rw[hc] at h <;> simp_all
theorem iO {ops:Array Oper} {o:Oper} {d:Nat} (h : .tmp d∈Op.bq o.op):d∈o.looksAt ops :=
 List.mem_append_left _ (List.mem_filterMap.2 ⟨.tmp d,by simpa using JN _ _ h,rfl⟩)
section
variable {P:Program} {Γ:Opt} {ops:List Oper} {s:St}
def WF (s:St):Prop := ∀ t,∀ i∈(s.tm t).ids,s.hp i≠none
theorem s8 (v:Value):(ir v).ids=[]:=by
 unfold ir; split <;> (try split) <;> rfl
theorem zh (v:Value):(kX v).ids=[]:=by
 unfold kX;split
 ·split
  ·simp only[Slot.ids,Cmp.ids,Cmp.leaves,List.flatMap_map];rw[List.flatMap_eq_nil_iff];intro x _;exact s8 x
  ·rfl
 ·rfl
 ·simp [Slot.ids,Cmp.ids,Cmp.leaves,s8]
theorem WF.ev {s:St} (h:WF s) (x:Operand):∀ i∈(s.ev x).ids,s.hp i≠none:=by
 cases x with
 | tmp t=>exact h t
 | const v=>intro i hi; rw[St.ev,zh] at hi; cases hi
 | global g =>
  have key:∀ o:Option (List PV),∀ i∈(match o with | some cs=>(.c (.v (.ip cs 0)):Slot) | none=>.dead).ids,s.hp i≠none:=fun o i hi=>by cases o <;> simp [Slot.ids,Cmp.ids,Cmp.leaves,av.ids] at hi
  exact key (zb g)
 | func f=>intro i hi; simp [St.ev,Slot.ids,Cmp.ids,Cmp.leaves,av.ids] at hi
theorem H4 {w0:World} {χ0:Col} {T0:Ctx} {s:St} {a:Act} {w:World} {G:Gh} (r:bP w0 χ0 T0 s a w G):WF s:=by
 have hc:∀ (c:Cmp) v,CRd G s.hp w c v->∀ i∈c.ids,s.hp i≠none:=by
  intro c v h i hi;cases c with
  | v x=>exact LRd.ids h i (by simpa [Cmp.ids,Cmp.leaves] using hi)
  | g xs =>
   obtain⟨vs,_,hall⟩:=h;obtain⟨x,hx,hi'⟩:=List.mem_flatMap.1 hi;obtain⟨j,hj⟩:=List.mem_iff_getElem?.1 hx;obtain⟨y,_,hr⟩:=hall.get hj;exact hr.ids i hi'
 intro t i hi;have h:=r.tms t;cases hs:s.tm t with
 | dead=>rw[hs] at hi; cases hi
 | c c=>rw[hs] at h hi; exact hc c _ h i hi
 | t l =>
  rw[hs] at h hi;obtain⟨vs,_,hall⟩:=h;obtain⟨x,hx,hi'⟩:=List.mem_flatMap.1 hi;obtain⟨j,hj⟩:=List.mem_iff_getElem?.1 hx;obtain⟨y,_,hr⟩:=hall.get hj;exact hc x y hr i hi'
theorem CE {s s':St} {σ:Ren} {x:av} {p:PV} (h:∀ i∈x.ids,s'.hp i=s.hp i) (hs:lW σ s x p):lW σ s' x p:=by
 unfold lW at hs ⊢;split at hs <;> first | exact hs | trivial | skip
 ·rename_i o l;rw[h o (by simp [av.ids])]; exact hs
 ·rename_i o k m;rw[h o (by simp [av.ids])]; exact hs
def Okp (s s':St) (i:Nat):Prop:=s'.hp i=s.hp i/\((∀ e cs,s.hp i≠some (.lit e cs))\/s'.hp=s.hp)
theorem xy {s s':St} {σ:Ren} {hps:List (Nat×cu)} {x y:av} (h:∀ i∈x.ids,Okp s s' i) (hip:y.rF=false\/∀ i,s'.hp i=s.hp i) (hs:pW σ s hps x y):pW σ s' hps x y:=by
 unfold pW at hs ⊢;split at hs <;> first | exact hs | trivial | skip
 ·rename_i o l;obtain⟨h1,h2⟩:=h o (by simp [av.ids]);rcases h2 with h2 | h2
  ·rw[h1];refine⟨?_,hs.2⟩;have h3:=hs.1;split at h3
   ·exact h3
   ·rename_i e cs he;exact absurd he (h2 e cs)
   ·exact h3.elim
  ·have e:xi σ s'=xi σ s:=by
    have e3:lW σ s'=lW σ s:=by
     funext x p
     unfold lW;rw[h2]
    funext xs ps
    induction xs generalizing ps with
    | nil=>cases ps <;> rfl
    | cons x xs ih=>cases ps with
     | nil=>rfl
     | cons p ps=>unfold xi; rw[e3,ih]
   rw[h1,e]; exact hs
 ·rename_i o a b z l;rw[(h o (by simp [av.ids])).1]; exact hs
 ·exact CE (fun i hi=>(h i hi).1) hs
 ·rcases hip with hip | hip
  ·cases hip
  ·have e:St.hp s'=s.hp:=funext hip;have e2:mi σ s'=mi σ s:=by
    have e3:lW σ s'=lW σ s:=by
     funext x p
     unfold lW;rw[e]
    funext xs ps
    induction xs generalizing ps with
    | nil=>cases ps <;> rfl
    | cons x xs ih=>cases ps with
     | nil=>rfl
     | cons p ps=>unfold mi; rw[e3,ih]
   rw[e,e2]; exact hs
theorem nQ {s s':St} {σ:Ren} {hps:List (Nat×cu)}:∀ {xs ys:List av},(∀ x∈xs,∀ i∈x.ids,Okp s s' i)->((∀ y∈ys,y.rF=false)\/∀ i,s'.hp i=s.hp i)->lX σ s hps xs ys->lX σ s' hps xs ys
 | [],[],_,_,h=>h
 | [],_::_,_,_,h=>h.elim
 | _::_,[],_,_,h=>h.elim
 | x::xs,y::ys,hh,hip,h=>⟨xy (hh x List.mem_cons_self) (hip.imp_left fun h=>h y List.mem_cons_self) h.1,nQ (fun z hz=>hh z (List.mem_cons_of_mem _ hz)) (hip.imp_left fun h z hz=>h z (List.mem_cons_of_mem _ hz)) h.2⟩
theorem xz {s s':St} {σ:Ren} {hps:List (Nat×cu)} {x y:Cmp} (h:∀ i∈x.ids,Okp s s' i) (hip:(∀ l∈y.leaves,l.rF=false)\/∀ i,s'.hp i=s.hp i) (hs:uW σ s hps x y):uW σ s' hps x y:=by
 unfold uW at hs ⊢;split at hs
 ·exact xy (fun i hi=>h i (by simpa [Cmp.ids,Cmp.leaves] using hi)) (hip.imp_left fun h=>h _ (by simp [Cmp.leaves])) hs
 ·exact nQ (fun z hz i hi=>h i (List.mem_flatMap.2 ⟨z,hz,hi⟩)) hip hs
 ·exact hs.elim
theorem vX {s s':St} {σ:Ren} {hps:List (Nat×cu)}:∀ {xs ys:List Cmp},(∀ x∈xs,∀ i∈x.ids,Okp s s' i)->((∀ y∈ys,∀ l∈y.leaves,l.rF=false)\/∀ i,s'.hp i=s.hp i)->s7 σ s hps xs ys->s7 σ s' hps xs ys
 | [],[],_,_,h=>h
 | [],_::_,_,_,h=>h.elim
 | _::_,[],_,_,h=>h.elim
 | x::xs,y::ys,hh,hip,h=>⟨xz (hh x List.mem_cons_self) (hip.imp_left fun h=>h y List.mem_cons_self) h.1,vX (fun z hz=>hh z (List.mem_cons_of_mem _ hz)) (hip.imp_left fun h z hz=>h z (List.mem_cons_of_mem _ hz)) h.2⟩
theorem EJ {s s':St} {σ:Ren} {hps:List (Nat×cu)} {x y:Slot} (h:∀ i∈x.ids,Okp s s' i) (hip:(∀ l∈y.lvs,l.rF=false)\/∀ i,s'.hp i=s.hp i) (hs:rC σ s hps x y):rC σ s' hps x y:=by
 unfold rC at hs ⊢;split at hs
 ·trivial
 ·exact xz h hip hs
 ·exact vX (fun z hz i hi=>h i (List.mem_flatMap.2 ⟨z,hz,hi⟩)) (hip.imp_left fun h y hy l hl=>h l (List.mem_flatMap.2 ⟨y,hy,hl⟩)) hs
 ·exact hs.elim
theorem rK {s s':St} {σ:Ren} {hps:List (Nat×cu)}:∀ {xs ys:List Slot},(∀ x∈xs,∀ i∈x.ids,Okp s s' i)->((∀ y∈ys,∀ l∈y.lvs,l.rF=false)\/∀ i,s'.hp i=s.hp i)->vT σ s hps xs ys->vT σ s' hps xs ys
 | [],[],_,_,h=>h
 | [],_::_,_,_,h=>h.elim
 | _::_,[],_,_,h=>h.elim
 | x::xs,y::ys,hh,hip,h=>⟨EJ (hh x List.mem_cons_self) (hip.imp_left fun h=>h y List.mem_cons_self) h.1,rK (fun z hz=>hh z (List.mem_cons_of_mem _ hz)) (hip.imp_left fun h z hz=>h z (List.mem_cons_of_mem _ hz)) h.2⟩
theorem nR {α:Type} {p q:α->Prop}:∀ {l:List α},(∀ x∈l,p x->q x)->pK p l->pK q l
 | [],_,_=>trivial
 | x::l,hh,h=>⟨hh x List.mem_cons_self h.1,nR (fun y hy=>hh y (List.mem_cons_of_mem _ hy)) h.2⟩
theorem ub {s:St} {c:Call} {f:Nat} {caps:List Nat} {x:Slot} (h:x∈gJ s c f caps):x∈c.args.toList.map s.ev\/x∈caps.map fun o=>Slot.c (.v (.loc o 0)):=by
 unfold gJ at h;split at h
 ·exact List.mem_append.1 h
 ·exact (List.mem_append.1 h).symm
theorem xA {s s' : St} {o : Oper} {e : Eff} (hev : ∀ x∈Op.bq o.op, s'.ev x=s.ev x) (hhp : ∀ x∈Op.bq o.op, ∀ i∈(s.ev x).ids, s'.hp i=s.hp i) (hfr : ∀ k, kl o k->s'.hp k=s.hp k)
    (hW : oT Γ o=false->s'.hp=s.hp) (h : kz P Γ s o e) : kz P Γ s' o e := by
  obtain ⟨c, fo, f, caps, S, τ, vw, news, ho, hcal, hfo, hcb, hm, hok, hkp, rfl⟩ := h;have hops : Op.bq o.op=fo::c.args.toList := by rw [ho]; simp [Op.bq, hcal]
  have hca : gJ s' c f caps=gJ s c f caps := by
    unfold gJ;rw [List.map_congr_left fun x hx => hev x (by rw [hops]; exact List.mem_cons_of_mem _ hx)]
  have hids : ∀ x∈gJ s c f caps, ∀ i∈x.ids, s'.hp i=s.hp i := fun x hx i hi => by
    rcases ub hx with hx | hx
    · obtain ⟨y, hy, rfl⟩ := List.mem_map.1 hx
      exact hhp y (by rw [hops]; exact List.mem_cons_of_mem _ hy) i hi
    · obtain ⟨y, hy, rfl⟩ := List.mem_map.1 hx
      refine hhp fo (by rw [hops]; exact List.mem_cons_self) i ?_;rw [hfo];simp [Slot.ids, Cmp.ids, Cmp.leaves, av.ids] at hi ⊢;subst hi; exact hy
  refine ⟨c, fo, f, caps, S, τ, vw, news, ho, hcal, (hev fo (by rw [hops]; exact List.mem_cons_self)).trans hfo, hcb, hm, ?_, fun x hx hk => ?_, rfl⟩
  rotate_left
  · have e : s'.hp x.1=s.hp x.1 := by
      cases hp : oT Γ o with
      | false => rw [hW hp]
      | true =>
        have hτ := (hok.pure hp).1;obtain ⟨y, hy, rfl⟩ := List.mem_map.1 hx;have hd := fP hok.dom y hy;rw [hτ] at hd ⊢;cases hl : ae news y.1 with
        | none => exact absurd hl hd
        | some k =>
          have h1 := fP hok.fresh _ (cx hl);have h2 : rnN ([].map (fun x : Nat×Nat => (x.2, x.1))++news) y.1=k := by
            show (ae news y.1).getD y.1=k;rw [hl]; rfl
          dsimp only;rw [h2];exact hfr k h1.2.2
    rw [e];exact hkp x hx hk
  rw [hca];cases hp : oT Γ o with
  | false =>
    have hh := hW hp;refine ⟨fun h => (by rw [hp] at h; cases h), rK (fun x hx i hi => ⟨hids x hx i hi, .inr hh⟩) (.inr fun i => by rw [hh]) hok.args, nR (fun q _ hq => ?_) hok.gM, hok.nd0, hok.nd1, hok.nd2, hok.nd3, nR (fun x _ hx => by rw [hh]; exact hx) hok.tau, hok.dom, nR (fun x _ hx => by rw [hh]; exact hx) hok.fresh, hok.flat, fun h => (by rw [hp] at h; cases h)⟩;unfold HSub at hq ⊢;rw [hh];split
    · rename_i o2 hl
      rw [hl] at hq;dsimp only at hq;unfold AZ at hq ⊢;split at hq <;> rename_i heq1 <;> first | trivial | skip
      · rename_i heq2
        obtain ⟨q1, q2⟩ := hq;exact ⟨q1, nQ (fun _ _ i _ => ⟨by rw [hh], .inr hh⟩) (.inr fun i => by rw [hh]) q2⟩
      · rename_i heq2
        first
          | exact hq
          | (obtain ⟨q1, q2⟩ := hq
             exact ⟨q1, nQ (fun _ _ i _ => ⟨by rw [hh], .inr hh⟩) (.inr fun i => by rw [hh]) q2⟩)
      all_goals first
        | exact hq
        | (obtain ⟨q1, q2⟩ := hq
           exact ⟨q1, nQ (fun _ _ i _ => ⟨by rw [hh], .inr hh⟩) (.inr fun i => by rw [hh]) q2⟩)
    · rename_i hl
      rw [hl] at hq;exact hq
  | true =>
    obtain ⟨hτ, hnoip⟩ := hok.pure hp;have hnolit := hok.lt hp;subst hτ;refine ⟨fun _ x hx i hi => (by rw [hids x hx i hi]; exact hnolit x hx i hi), rK (fun x hx i hi => ⟨hids x hx i hi, .inl (hnolit x hx i hi).2⟩) (.inl hnoip) hok.args, hok.gM, hok.nd0, hok.nd1, hok.nd2, hok.nd3, trivial, hok.dom, nR (fun x _ hx => ⟨by rw [hfr x.2 hx.2.2]; exact hx.1, hx.2⟩) hok.fresh, hok.flat, fun _ => ⟨rfl, hnoip⟩⟩
theorem zM {s s':St} {o:Oper} (hcl:∀ c f,o.op = .call c->c.callee ≠ .value f) (hev:∀ x∈Op.bq o.op,s'.ev x=s.ev x) (hhp:cls Γ o ≠ .N->∀ x∈Op.bq o.op,∀ i∈(s.ev x).ids,s'.hp i=s.hp i) (hfr:cls Γ o ≠ .N->cls Γ o ≠ .R->∀ k,kl o k->s'.hp k=s.hp k) (hno:rH Γ s o):opX P Γ s' o=opX P Γ s o:=by
 have e1:(Op.bq o.op).map s'.ev=(Op.bq o.op).map s.ev:=List.map_congr_left hev;cases hz:inL Γ.fz o.dst && cE o.op with
 | true=>rw[xw hz,xw hz,e1]
 | false =>
 cases ht:inL Γ.fz o.dst && dB o.op with
 | true =>
  have hP:cls Γ o = .P:=by unfold cls; rw[hz,ht]; rfl
  have hN:cls Γ o ≠ .N:=by rw[hP]; simp
  have hR:cls Γ o ≠ .R:=by rw[hP]; simp
  have e2:(Op.bq o.op).map s'.arg=(Op.bq o.op).map s.arg:=List.map_congr_left fun x hx=>by
   unfold St.arg;rw[hev x hx];congr 1;exact List.map_congr_left fun i hi=>hhp hN x hx i hi
  have e3:aF s'.hp o.dst=aF s.hp o.dst:=by
   cases hd:o.dst with
   | none=>rfl
   | some d =>
    simp only[aF];rw[hfr hN hR d ⟨d,0,hd,by simp⟩]
  rw[rI ht,rI ht,e2,e3]
 | false =>
 have hzt:=rJ hz ht;rw[jG hzt,jG hzt];have hmvs:oA o.op=true->(Op.bq o.op).map s'.arg=(Op.bq o.op).map s.arg->orE (opE P o.op o.dst (aF s'.hp o.dst) ((Op.bq o.op).map s'.arg)) (opY P o.op o.dst (aF s'.hp o.dst) ((Op.bq o.op).map s'.arg))=orE (opE P o.op o.dst (aF s.hp o.dst) ((Op.bq o.op).map s.arg)) (opY P o.op o.dst (aF s.hp o.dst) ((Op.bq o.op).map s.arg)):=fun h2 e2=>by
  rw[e2];unfold oA at h2;split at h2 <;> rename_i hop <;> first | (cases h2; done) | (rw[hop]; simp only[opE,opY,iB,opV])
 by_cases hN:cls Γ o = .N
 ·cases hmv:inL Γ.mv o.dst && oA o.op with
  | true =>
   rw[Bool.and_eq_true] at hmv;exact hmvs hmv.2 (List.map_congr_left fun x hx=>by
    unfold St.arg;rw[hev x hx,hno.1 hmv.1 x hx]; rfl)
  | false =>
   have hm:∀ s:St,((Op.bq o.op).map s.arg).map (·.1)=(Op.bq o.op).map s.ev:=fun s=>by rw[List.map_map]; rfl
   unfold cls at hN;rw[hz,ht,hmv] at hN;simp only[Bool.false_eq_true,if_false] at hN;split at hN
   ·cases hN
   unfold wu at hN;split at hN <;> rename_i hop <;> first | (cases hN; done) | (rw[hop]; simp only[opE,opY,iB,opV]; rw[← hop,hm s',hm s,e1]) | (split at hN <;> cases hN)
 ·have e2:(Op.bq o.op).map s'.arg=(Op.bq o.op).map s.arg:=List.map_congr_left fun x hx=>by
   unfold St.arg;rw[hev x hx];congr 1;exact List.map_congr_left fun i hi=>hhp hN x hx i hi
  by_cases hR:cls Γ o = .R
  ·refine hmvs ?_ e2;unfold cls at hR;rw[hz,ht] at hR;simp only[Bool.false_eq_true,if_false] at hR;split at hR
   ·cases hR
   ·split at hR
    ·rename_i h; rw[Bool.and_eq_true] at h; exact h.2
    ·exact absurd hR EI
  ·have e3:aF s'.hp o.dst=aF s.hp o.dst:=by
    cases hd:o.dst with
    | none=>rfl
    | some d =>
     simp only[aF];rw[hfr hN hR d ⟨d,0,hd,by simp⟩]
   rw[e2,e3]
theorem JO {op:Op} {k:Nat} (h:nP op=some k) : .tmp k∈Op.bq op:=by
 unfold nP at h;split at h <;> first | (cases h; done) | (injection h with h; subst h; simp [Op.bq])
theorem MT {o:Oper} {k:Nat} (h:nP o.op=some k) (hN:cls Γ o = .N):inL Γ.mv o.dst=true:=by
 unfold nP at h;unfold cls wu at hN;split at h <;> rename_i hop <;> first | (cases h; done) | skip
 all_goals
  rw[hop] at hN;simp only[cE,dB,oA,Bool.and_false,Bool.and_true,Bool.false_eq_true,if_false] at hN
 ·split at hN
  ·assumption
  ·split at hN <;> cases hN
 ·cases hN
theorem CF {s s':St} {o:Oper} (hev:∀ x∈Op.bq o.op,s'.ev x=s.ev x) (hhp:cls Γ o ≠ .N->∀ x∈Op.bq o.op,∀ i∈(s.ev x).ids,s'.hp i=s.hp i) (h:rH Γ s o):Ps Γ s' o:=by
 intro k hk t ht i hi;have hm:=JO hk;rw[hev _ hm] at hi;by_cases hN:cls Γ o = .N
 ·have:=h.1 (MT hk hN) _ hm;rw[this] at hi; cases hi
 ·unfold btP;rw[hhp hN _ hm i hi];exact h.2.2 k hk t ht i hi
theorem ff {s s':St} {o:Oper} {e:Eff} (hev:∀ x∈Op.bq o.op,s'.ev x=s.ev x) (hhp:cls Γ o ≠ .N->∀ x∈Op.bq o.op,∀ i∈(s.ev x).ids,s'.hp i=s.hp i) (hfr:cls Γ o ≠ .N->cls Γ o ≠ .R->∀ k,kl o k->s'.hp k=s.hp k)
  (hW:cls Γ o = .W->s'.hp=s.hp) (h:Stp P Γ s o e):Stp P Γ s' o e:=by
 unfold Stp at h ⊢;split at h
 ·rename_i f args ts hop;have hc:cls Γ o=if oT Γ o then .A else .W:=by unfold cls wu; rw[hop]; simp [oA,cE,dB]
  have hN:cls Γ o ≠ .N:=by rw[hc]; split <;> simp
  have hR:cls Γ o ≠ .R:=by rw[hc]; split <;> simp
  exact xA hev (hhp hN) (hfr hN hR) (fun hp=>hW (by rw[hc,hp]; rfl)) h
 ·rename_i hno;by_cases hN:cls Γ o = .N
  ·refine⟨?_,fun hm x hx=>by rw[hev x hx]; exact h.2.1 hm x hx,fun hm hb x hx i hi=>?_,CF hev hhp h.2⟩
   ·rw[zM (Γ:=Γ) (fun c f hop hcal=>by
     obtain⟨cl,as,ts⟩:=c;dsimp only at hcal;subst hcal;exact hno _ _ _ hop) hev hhp hfr h.2]; exact h.1
   ·exfalso;unfold cls at hN;have hbl:cE o.op=false:=by
     rw[Bool.and_eq_true] at hb;have hb:=hb.2;unfold oA at hb;split at hb <;> rename_i hop <;> first | (cases hb; done) | (rw[hop]; rfl)
    rw[hm,hb,hbl,Bool.and_false] at hN;simp at hN;split at hN <;> cases hN
  ·refine⟨?_,fun hm x hx=>by rw[hev x hx]; exact h.2.1 hm x hx,fun hm hb x hx i hi=>?_,CF hev hhp h.2⟩
   ·rw[zM (Γ:=Γ) (fun c f hop hcal=>by
     obtain⟨cl,as,ts⟩:=c;dsimp only at hcal;subst hcal;exact hno _ _ _ hop) hev hhp hfr h.2]; exact h.1
   ·rw[hev x hx] at hi;rw[hhp hN x hx i hi];exact h.2.2.1 hm hb x hx i hi
theorem mb {x:Slot} {e:Eff} (h:val x=some e):e.wr=[]:=by simp only[val,Option.some.injEq] at h; rw[← h]
theorem iC {c:Prop} {x:Slot} {e:Eff} (h:dQ c x=some e):e.wr=[]:=by simp only[dQ,Option.some.injEq] at h; rw[← h]
theorem Qy {x:Slot} {e:Eff} {c:Prop} (h:(some ⟨c,x,[]⟩:Option Eff)=some e):e.wr=[]:=by simp only[Option.some.injEq] at h; rw[← h]
theorem MU {op:BinOp} {k:IntKind} {a b:Int} {e:Eff} (h:mc op k a b=some e):e.wr=[]:=by
 unfold mc at h;split at h <;> (try split at h) <;> first | exact mb h | exact iC h | cases h
theorem MV {op:BinOp} {a b:ByteArray} {e:Eff} (h:mX op a b=some e):e.wr=[]:=by
 unfold mX at h;split at h <;> first | exact mb h | exact iC h | cases h
theorem JP {o:Oper} (h:(inL Γ.fz o.dst && dB o.op)=true):cls Γ o = .P:=by
 have h2:=h;rw[Bool.and_eq_true] at h2;have hb:cE o.op=false:=by
  have h3:=h2.2;unfold dB at h3;split at h3 <;> rename_i hop <;> first | (cases h3; done) | (rw[hop]; rfl)
 unfold cls;rw[hb,Bool.and_false,h]; rfl
theorem CG {o:Oper} (h:cls Γ o ≠ .P):(inL Γ.fz o.dst && dB o.op)=false:=by
 cases ht:inL Γ.fz o.dst && dB o.op with
 | true=>exact absurd (JP ht) h
 | false=>rfl
theorem Qz {s:St} {o:Oper} {e:Eff} (hN:cls Γ o = .N\/cls Γ o = .R) (h:Stp P Γ s o e):e.wr=[]:=by
 have key:∀ (hnc:∀ f a t,o.op ≠ .call ⟨.value f,a,t⟩),opX P Γ s o=some e/\rH Γ s o:=fun hnc=>by
  unfold Stp at h;split at h
  ·rename_i f a t hop; exact absurd hop (hnc f a t)
  ·exact h
 cases hz:inL Γ.fz o.dst && cE o.op with
 | true =>
  have hb:cE o.op=true:=by rw[Bool.and_eq_true] at hz; exact hz.2
  have h1:=(key (by intro f a t hop; rw[hop] at hb; cases hb)).1;rw[xw hz] at h1;exact JB h1
 | false =>
 have ht:(inL Γ.fz o.dst && dB o.op)=false:=CG (by rcases hN with h | h <;> rw[h] <;> simp);rw[jG (rJ hz ht)] at key;cases h2:(inL Γ.mv o.dst || inL Γ.bx o.dst) && oA o.op with
 | true =>
  rw[Bool.and_eq_true] at h2;have h2:=h2.2;unfold oA at h2;split at h2 <;> rename_i hop <;> first | (cases h2; done) | skip
  all_goals
   obtain⟨h,_⟩:=key (by simp [hop]);rw[hop] at h;simp only[opE,opY,iB,opV,fQ,fI] at h
  ·unfold mW at h;split at h
   ·split at h
    ·rw[Option.bind_eq_some_iff] at h;obtain⟨c,_,h⟩:=h;exact (mb h)
    ·cases h
   ·split at h <;> (try split at h) <;> first | exact (iC h) | cases h
   ·split at h <;> (try split at h) <;> (try split at h) <;> first | exact (iC h) | cases h
   ·cases h
  ·rcases jH h with h | h
   ·unfold eX at h;split at h <;> (try split at h) <;> (try split at h) <;> first | exact (iC h) | cases h
   ·unfold pL at h;split at h <;> (try split at h) <;> (try split at h) <;> (try split at h) <;> first | exact (iC h) | cases h
  ·unfold j0 at h;split at h <;> (try split at h) <;> (try split at h) <;> first | exact (mb h) | exact (iC h) | cases h
  ·split at h
   ·unfold me at h;split at h <;> (try split at h) <;> first | exact (mb h) | exact (iC h) | cases h
   ·cases h
 | false =>
 have hN:wu Γ o = .N:=by
  have e1:(inL Γ.mv o.dst && oA o.op)=false:=by
   cases h3:inL Γ.mv o.dst <;> cases h4:inL Γ.bx o.dst <;> cases h5:oA o.op <;> simp_all
  have e2:(inL Γ.bx o.dst && oA o.op)=false:=by
   cases h3:inL Γ.mv o.dst <;> cases h4:inL Γ.bx o.dst <;> cases h5:oA o.op <;> simp_all
  unfold cls at hN;rw[hz,ht,e1,e2] at hN;rcases hN with hN | hN
  ·exact hN
  ·exact absurd hN EI
 unfold wu at hN;split at hN <;> rename_i hop <;> first | (cases hN; done) | (split at hN <;> cases hN; done) | skip
 all_goals
  obtain⟨h,_⟩:=key (by simp [hop]);rw[hop] at h;simp only[opE,opY,iB,opV,fQ,fI] at h
 ·unfold uT at h; split at h <;> first | exact mb h | cases h
 ·unfold uT at h; split at h <;> first | exact mb h | cases h
 ·unfold s9 at h; split at h <;> first | exact mb h | cases h
 ·unfold Cb at h; split at h <;> first | exact mb h | cases h
 ·unfold jS at h; split at h <;> (try split at h) <;> first | exact mb h | cases h
 ·unfold sf at h;split at h
  ·split at h
   ·rw[Option.bind_eq_some_iff] at h;obtain⟨c,_,h⟩:=h;exact mb h
   ·cases h
  ·cases h
 ·rcases jH h with h | h
  ·unfold mS at h;split at h
   ·split at h
    ·exact MU h
    ·cases h
   ·exact MV h
   all_goals first | cases h | (split at h <;> first | exact mb h | cases h)
  ·unfold zd at h;split at h
   ·rename_i heq;injection h with h
    subst h;unfold rb at heq;split at heq <;> (try split at heq) <;> (try split at heq) <;> (try split at heq) <;> (try split at heq) <;> first | exact mb heq | cases heq
   ·split at h
    ·rename_i heq;injection h with h
     subst h;unfold Ey at heq;split at heq <;> (try split at heq) <;> (try split at heq) <;> first | exact mb heq | exact iC heq | cases heq
    ·unfold Ct at h;split at h <;> (try split at h) <;> first | exact mb h | cases h
 ·unfold Jf at h; split at h <;> (try split at h) <;> first | exact mb h | exact iC h | cases h
 ·unfold oK at h; split at h <;> (try split at h) <;> first | exact mb h | cases h
 ·unfold si at h; split at h <;> (try split at h) <;> (try split at h) <;> first | exact mb h | cases h
 ·unfold ov at h; split at h <;> (try split at h) <;> (try split at h) <;> (try split at h) <;> first | exact iC h | cases h
 ·unfold lQ at h; split at h <;> (try split at h) <;> first | exact mb h | cases h
 ·unfold nO at h; split at h <;> (try split at h) <;> first | exact mb h | cases h
 ·unfold nO at h; split at h <;> (try split at h) <;> first | exact mb h | cases h
theorem QA {s:St} {o:Oper} {e:Eff} (hA:cls Γ o = .A) (h:Stp P Γ s o e):∀ x∈e.wr,s.hp x.1=none/\kl o x.1:=by
 have nil:e.wr=[]->∀ x∈e.wr,s.hp x.1=none/\kl o x.1:=fun h x hx=>by rw[h] at hx; cases hx
 have key:∀ (hnc:∀ f a t,o.op ≠ .call ⟨.value f,a,t⟩),e.wr=[]\/orE (opE P o.op o.dst (aF s.hp o.dst) ((Op.bq o.op).map s.arg)) (opY P o.op o.dst (aF s.hp o.dst) ((Op.bq o.op).map s.arg))=some e:=fun hnc=>by
  unfold Stp at h;split at h
  ·rename_i f a t hop; exact absurd hop (hnc f a t)
  ·cases hz:inL Γ.fz o.dst && cE o.op with
   | true=>rw[xw hz] at h; exact .inl (JB h.1)
   | false=>rw[jG (rJ hz (CG (by rw[hA]; simp)))] at h; exact .inr h.1
 unfold cls at hA;split at hA
 ·cases hA
 split at hA
 ·cases hA
 split at hA
 ·cases hA
 split at hA
 ·cases hA
 unfold wu at hA;split at hA <;> rename_i hop <;> first | (cases hA; done) | skip
 ·rcases key (by simp [hop]) with h | h
  ·exact nil h
  rw[hop] at h;simp only[opE,opY,iB,opV,fQ,fI] at h;unfold mW at h;split at h
  ·split at h
   ·rw[Option.bind_eq_some_iff] at h;obtain⟨c,_,h⟩:=h;exact nil (mb h)
   ·cases h
  ·split at h <;> (try split at h) <;> first | exact nil (iC h) | cases h
  ·split at h <;> (try split at h) <;> (try split at h) <;> first | exact nil (iC h) | cases h
  ·cases h
 ·rcases key (by simp [hop]) with h | h
  ·exact nil h
  rw[hop] at h;simp only[opE,opY,iB,opV,fQ,fI] at h;rcases jH h with h | h
  ·unfold eX at h;split at h <;> (try split at h) <;> (try split at h) <;> first | exact nil (iC h) | cases h
  ·unfold pL at h;split at h <;> (try split at h) <;> (try split at h) <;> (try split at h) <;> first | exact nil (iC h) | cases h
 ·rename_i t;rcases key (by simp [hop]) with h | h
  ·exact nil h
  rw[hop] at h;simp only[opE,opY,iB,opV,fQ,Op.bq,List.map_nil] at h;cases hdst:o.dst with
  | none=>simp [kJ,hdst] at h
  | some d =>
   cases hz:kN P t with
   | none=>simp [kJ,hz] at h
   | some cs =>
    simp only[kJ,hdst,hz] at h;split at h
    ·rename_i hf;simp only[Option.some.injEq] at h;subst h;intro x hx;simp at hx;subst hx;exact⟨(by simpa [aF] using hf:_/\_).1,d,0,hdst,by simp⟩
    ·cases h
 ·rcases key (by simp [hop]) with h | h
  ·exact nil h
  rw[hop] at h;simp only[opE,opY,iB,opV,fQ,fI] at h;cases hdst:o.dst with
  | none =>
   rcases jH h with h | h
   ·simp [dx,hdst] at h
   ·simp [fN,hdst] at h
  | some d =>
   rcases jH h with h | h
   ·unfold dx at h;rw[hdst] at h;split at h
    ·rename_i e' z d' _ hdd;injection hdd with hdd
     subst hdd;split at h
     ·rename_i hc;split at h
      ·simp only[Option.some.injEq] at h;subst h;intro x hx;simp at hx;subst hx;exact⟨(by simpa [aF] using hc.2.1:_/\_).1,d,0,hdst,by simp⟩
      ·cases h
     ·cases h
    ·cases h
   ·unfold fN at h;rw[hdst] at h;split at h
    ·rename_i e' z d' _ hdd;injection hdd with hdd
     subst hdd;split at h
     ·rename_i hc;split at h
      ·simp only[Option.some.injEq] at h;subst h;intro x hx;simp at hx;subst hx;exact⟨(by simpa [aF] using hc.2.1:_/\_).1,d,0,hdst,by simp⟩
      ·cases h
     ·cases h
    ·cases h
 ·rename_i t rs;rcases key (by simp [hop]) with h | h
  ·exact nil h
  rw[hop] at h;simp only[opE,opY,iB,opV,fQ,fI] at h;unfold kB at h;split at h
  ·split at h
   ·rename_i kt et d hu hdd;split at h
    ·split at h
     ·split at h
      ·rename_i hf;simp only[Option.some.injEq] at h;subst h;intro x hx;simp at hx;subst hx;exact⟨(by rw[hdd] at hf; simpa [aF] using hf:_/\_).1,d,0,hdd,by simp⟩
      ·cases h
     ·cases h
    ·split at h
     ·split at h
      ·rename_i hf;simp only[Option.some.injEq] at h;subst h;intro x hx;simp at hx;subst hx;exact⟨(by rw[hdd] at hf; simpa [aF] using hf:_/\_).1,d,0,hdd,by simp⟩
      ·cases h
     ·split at h
      ·split at h
       ·rename_i hf;simp only[Option.some.injEq] at h;subst h;intro x hx;simp at hx;subst hx;exact⟨(by rw[hdd] at hf; simpa [aF] using hf:_/\_).1,d,0,hdd,by simp⟩
       ·cases h
      ·cases h
     ·cases h
   ·cases h
  ·cases h
 ·rcases key (by simp [hop]) with h | h
  ·exact nil h
  rw[hop] at h;simp only[opE,opY,iB,opV,fQ,fI] at h;rcases jH h with h | h
  ·unfold iy at h;split at h <;> (try split at h) <;> (try split at h) <;> (try split at h) <;> first | exact nil (mb h) | cases h
  ·split at h;all_goals first | (rename_i heq; cases heq; done) | skip
   ·unfold pr at h;split at h <;> (try split at h) <;> (try split at h) <;> (try split at h) <;> first | exact nil (mb h) | cases h
   all_goals cases h
 ·rcases key (by simp [hop]) with h | h
  ·exact nil h
  rw[hop] at h;simp only[opE,opY,iB,opV,fQ,fI] at h;unfold j0 at h;split at h <;> (try split at h) <;> (try split at h) <;> first | exact nil (mb h) | exact nil (iC h) | cases h
 ·rcases key (by simp [hop]) with h | h
  ·exact nil h
  rw[hop] at h;simp only[opE,opY,iB,opV,fQ,fI] at h;rcases jH h with h | h
  ·unfold kG at h; split at h <;> (try split at h) <;> (try split at h) <;> first | exact nil (mb h) | cases h
  ·unfold nF at h;split at h
   ·rename_i heq;injection h with h
    subst h;exact nil (ML heq)
   ·unfold rG at h;split at h <;> (try split at h) <;> (try split at h) <;> first | exact nil (Qy h) | cases h
 ·rcases key (by simp [hop]) with h | h
  ·exact nil h
  rw[hop] at h;simp only[opE,opY,iB,opV,fQ,fI] at h;unfold xn at h;split at h
  ·split at h
   ·rename_i d n hdst hn;split at h
    ·rename_i hc;simp only[Option.some.injEq] at h;subst h;intro x hx;simp at hx;subst hx;have hf:=hc.1;rw[hdst] at hf;exact⟨(by simpa [aF] using hf:_/\_).1,d,0,hdst,by simp⟩
    ·cases h
   ·cases h
  ·cases h
 ·rcases key (by simp [hop]) with h | h
  ·exact nil h
  rw[hop] at h;simp only[opE,opY,iB,opV,fQ,fI] at h;unfold kP at h;split at h
  ·split at h
   ·rename_i e' z d hel hdst;split at h
    ·split at h
     ·rename_i hc;simp only[Option.some.injEq] at h;subst h;intro x hx;simp at hx;subst hx;have hf:=hc.1;rw[hdst] at hf;exact⟨(by simpa [aF] using hf:_/\_).1,d,0,hdst,by simp⟩
     ·cases h
    ·cases h
   ·cases h
  ·cases h
 ·rcases key (by simp [hop]) with h | h
  ·exact nil h
  rw[hop] at h;simp only[opE,opY,iB,opV,fQ,fI] at h;split at h
  ·unfold me at h;split at h <;> (try split at h) <;> first | exact nil (mb h) | exact nil (iC h) | cases h
  ·cases h
 ·split at hA
  ·rename_i hp;unfold Stp at h;rw[hop] at h;obtain⟨c,fo,f,caps,S,τ,vw,news,ho,hcal,hfo,hcb,hm,hok,hkp,rfl⟩:=h;have hτ:=(hok.pure hp).1;subst hτ;intro x hx;obtain⟨y,hy,rfl⟩:=List.mem_map.1 hx;have hd:=fP hok.dom y hy;cases hl:ae news y.1 with
   | none=>exact absurd hl hd
   | some k =>
    have h1:=fP hok.fresh _ (cx hl);have h2:rnN ([].map (fun x:Nat×Nat=>(x.2,x.1))++news) y.1=k:=by
     show (ae news y.1).getD y.1=k;rw[hl]; rfl
    dsimp only;rw[h2];exact⟨h1.1,h1.2.2⟩
  ·cases hA
theorem MW {s:St} {o:Oper} {e:Eff} (h:xu P o.op o.dst (aF s.hp o.dst) ((Op.bq o.op).map s.arg)=some e):∀ x∈e.wr,(s.hp x.1=none\/∀ t cs,s.hp x.1≠some (.box t cs))/\(∀ t cs,x.2 ≠ .box t cs)/\((∀ t z l,x.2 ≠ .arr t z l)\/s.hp x.1=none):=by
 have hfree:∀ d,o.dst=some d->aF s.hp o.dst=true->s.hp d=none:=fun d hd hf=>by
  rw[hd] at hf;exact (by simpa [aF] using hf:_/\_).1
 unfold xu at h;split at h <;> rename_i hop
 ·unfold qx at h;split at h
  ·split at h <;> first | (cases h; done) | (simp only[val,Option.some.injEq] at h; subst h; intro x hx; cases hx)
  ·cases h
 ·rw[hop] at h;simp only[Op.bq,List.map_cons,List.map_nil] at h;unfold tj at h;split at h
  ·rename_i ob k e0 z m k' n _ heq;simp only[List.cons.injEq,and_true] at heq;have hob:s.hp ob=some (.gI k e0 z m none):=by simpa [Slot.ids,Cmp.ids,Cmp.leaves,av.ids] using (St.bF heq.1).2
   split at h
   ·rename_i hdst;split at h
    ·split at h
     ·rename_i hc;simp only[Option.some.injEq] at h;subst h;have hn:=hfree _ hdst hc.2.2;intro x hx;simp at hx;rcases hx with rfl | rfl
      ·exact⟨.inr (by rw[hob]; simp),by simp,.inl (by simp)⟩
      ·exact⟨.inl hn,by simp,.inr hn⟩
     ·cases h
    ·cases h
   ·cases h
  ·cases h
 ·rw[hop] at h;simp only[Op.bq,List.map_cons] at h;unfold tk at h;split at h
  ·rename_i ob e' z' l as heq;simp only[List.cons.injEq] at heq;have hob:s.hp ob=some (.arr e' z' l):=by simpa [Slot.ids,Cmp.ids,Cmp.leaves,av.ids] using (St.bF heq.1).2
   split at h
   ·rename_i hdst;split at h
    ·rename_i hc;simp only[Option.some.injEq] at h;subst h;have hn:=hfree _ hdst hc.2;intro x hx;simp at hx;rcases hx with rfl | rfl
     ·exact⟨.inr (by rw[hob]; simp),by simp,.inl (by simp)⟩
     ·exact⟨.inl hn,by simp,.inr hn⟩
    ·cases h
   ·cases h
  ·cases h
 ·rw[hop] at h;simp only[Op.bq,List.map_nil] at h;unfold xt at h;split at h
  ·split at h
   ·rename_i hdst _;split at h
    ·split at h
     ·split at h
      ·rename_i hc;simp only[Option.some.injEq] at h;subst h;have hc1:=hc.1;rw[Bool.and_eq_true] at hc1;have hn:=hfree _ hdst hc1.1;intro x hx;simp at hx;subst hx;exact⟨.inl hn,by simp,.inr hn⟩
      ·cases h
     ·cases h
    ·cases h
   ·cases h
  ·rename_i hno; exact (hno rfl).elim
 ·rw[hop] at h;simp only[Op.bq,List.map_cons,List.map_nil] at h;unfold tn at h;split at h
  ·split at h
   ·rename_i hdst _;split at h
    ·rename_i hc;simp only[Option.some.injEq] at h;subst h;have hn:=hfree _ hdst hc.1;intro x hx;simp at hx;subst hx;exact⟨.inl hn,by simp,.inr hn⟩
    ·cases h
   ·cases h
  ·cases h
 ·rw[hop] at h;simp only[Op.bq,Option.toList,List.map_nil] at h;unfold su at h;split at h
  ·split at h
   ·rename_i hdst;split at h
    ·split at h
     ·rename_i hc;simp only[Option.some.injEq] at h;subst h;have hn:=hfree _ hdst hc;intro x hx;simp at hx;subst hx;exact⟨.inl hn,by simp,.inr hn⟩
     ·cases h
    ·cases h
   ·cases h
  ·rename_i hno; exact (hno rfl).elim
 ·rw[hop] at h;exact nomatch h
 ·rename_i as ts;split at h
  ·split at h
   ·rw[hop] at h;simp only[Op.bq,List.nil_append] at h;unfold pM at h;split at h
    ·rename_i ob e0 z l y heq;have hob:s.hp ob=some (.arr e0 z l):=by
      cases hl:as.toList with
      | nil=>rw[hl] at heq; cases heq
      | cons x r =>
       rw[hl,List.map_cons] at heq;injection heq with h1 h2
       injection h1 with h3 h4
       rw[h3] at h4
       simpa [Slot.ids,Cmp.ids,Cmp.leaves,av.ids] using h4
     split at h
     ·split at h
      ·simp only[Option.some.injEq] at h;subst h;intro x hx;simp at hx;subst hx;exact⟨.inr (by rw[hob]; simp),by simp,.inl (by simp)⟩
      ·cases h
     ·cases h
    ·cases h
   ·cases h
  ·cases h
 ·cases h
theorem QB {s:St} {o:Oper} {e:Eff} (hP:cls Γ o = .P) (h:Stp P Γ s o e):∀ x∈e.wr,(s.hp x.1=none\/∀ t cs,s.hp x.1≠some (.box t cs))/\(∀ t cs,x.2 ≠ .box t cs)/\((∀ t z l,x.2 ≠ .arr t z l)\/s.hp x.1=none):=by
 cases ht:inL Γ.fz o.dst && dB o.op with
 | true =>
  have h1:opX P Γ s o=some e:=by
   unfold Stp at h;split at h
   ·rename_i hop;rw[Bool.and_eq_true] at ht;have:=ht.2;rw[hop] at this; cases this
   ·exact h.1
  rw[rI ht] at h1;exact MW h1
 | false =>
 unfold cls at hP;split at hP
 ·cases hP
 rename_i hz;rw[ht] at hP;rw[if_neg (by simp)] at hP;split at hP
 ·cases hP
 split at hP
 ·cases hP
 unfold wu at hP;split at hP <;> rename_i hop <;> first | (cases hP; done) | (split at hP <;> cases hP; done) | skip
 rename_i as ts;unfold Stp at h;rw[hop] at h;obtain⟨h,_⟩:=h;rw[jG (rJ (by simpa using hz) ht)] at h;rw[hop] at h;simp only[opE,opY,iB,opV,fQ,fI,Op.bq,List.nil_append] at h;have key:∀ t,iw P t o.dst (aF s.hp o.dst) (as.toList.map s.arg)=some e->∀ x∈e.wr,(s.hp x.1=none\/∀ t cs,s.hp x.1≠some (.box t cs))/\(∀ t cs,x.2 ≠ .box t cs)/\((∀ t z l,x.2 ≠ .arr t z l)\/s.hp x.1=none):=by
  intro t h;have hfree:∀ d,o.dst=some d->aF s.hp o.dst=true->s.hp d=none:=fun d hd hf=>by
   rw[hd] at hf;exact (by simpa [aF] using hf:_/\_).1
  unfold iw at h;split at h
  ·rename_i ob e0 z l y heq;have hob:s.hp ob=some (.arr e0 z l):=by
    cases hl:as.toList with
    | nil=>rw[hl] at heq; cases heq
    | cons x r =>
     rw[hl,List.map_cons] at heq;injection heq with h1 h2
     injection h1 with h3 h4
     rw[h3] at h4
     simpa [Slot.ids,Cmp.ids,Cmp.leaves,av.ids] using h4
   split at h
   ·rename_i e' z' m d _ _ hd;split at h
    ·rename_i hc;simp only[Option.some.injEq] at h;subst h;intro x hx;simp at hx;rcases hx with rfl | rfl
     ·exact⟨.inr (by rw[hob]; simp),by simp⟩
     ·exact⟨.inl (hfree d hd hc.2.2),by simp,.inr (hfree d hd hc.2.2)⟩
    ·cases h
   ·cases h
  ·split at h
   ·rename_i e' z' m d _ _ hd;split at h
    ·rename_i hc;simp only[Option.some.injEq] at h;subst h;intro x hx;simp at hx;subst hx;exact⟨.inl (hfree d hd hc),by simp,.inr (hfree d hd hc)⟩
    ·cases h
   ·cases h
  ·cases h
 have keyT:∀ t,n7 P t o.dst (aF s.hp o.dst) (as.toList.map s.arg)=some e->∀ x∈e.wr,(s.hp x.1=none\/∀ t cs,s.hp x.1≠some (.box t cs))/\(∀ t cs,x.2 ≠ .box t cs)/\((∀ t z l,x.2 ≠ .arr t z l)\/s.hp x.1=none):=by
  intro t h;unfold n7 at h;split at h
  ·split at h
   ·rename_i hd;split at h
    ·rename_i hc;simp only[Option.some.injEq] at h;subst h;intro x hx;simp at hx;subst hx;rw[hd] at hc;have hn:=(by simpa [aF] using hc:_/\_).1;exact⟨.inl hn,by simp,.inr hn⟩
    ·cases h
   ·cases h
  ·cases h
 have wU:∀ t t',mo P t t' o.dst (aF s.hp o.dst) (as.toList.map s.arg)=some e->∀ x∈e.wr,(s.hp x.1=none\/∀ t cs,s.hp x.1≠some (.box t cs))/\(∀ t cs,x.2 ≠ .box t cs)/\((∀ t z l,x.2 ≠ .arr t z l)\/s.hp x.1=none):=by
  intro t t' h;unfold mo at h;split at h
  ·split at h
   ·rename_i hd;split at h
    ·split at h
     ·rename_i hc;simp only[Option.some.injEq] at h;subst h;intro x hx;simp at hx;subst hx;rw[hd] at hc;have hn:=(by simpa [aF] using hc.1:_/\_).1;exact⟨.inl hn,by simp,.inr hn⟩
     ·cases h
    ·cases h
   ·cases h
  ·cases h
 have keyB:∀ t t',mr P t t' o.dst (aF s.hp o.dst) (as.toList.map s.arg)=some e->∀ x∈e.wr,(s.hp x.1=none\/∀ t cs,s.hp x.1≠some (.box t cs))/\(∀ t cs,x.2 ≠ .box t cs)/\((∀ t z l,x.2 ≠ .arr t z l)\/s.hp x.1=none):=by
  intro t t' h;have hfree:∀ d,o.dst=some d->aF s.hp o.dst=true->s.hp d=none:=fun d hd hf=>by
   rw[hd] at hf;exact (by simpa [aF] using hf:_/\_).1
  unfold mr at h;split at h
  ·rename_i ob e0 z l sx y heq;have hob:s.hp ob=some (.arr e0 z l):=by
    cases hl:as.toList with
    | nil=>rw[hl] at heq; cases heq
    | cons x r =>
     rw[hl,List.map_cons] at heq;injection heq with h1 h2
     injection h1 with h3 h4
     rw[h3] at h4
     simpa [Slot.ids,Cmp.ids,Cmp.leaves,av.ids] using h4
   split at h
   ·rename_i e' z' d _ _ hd;split at h
    ·rename_i hc;simp only[Option.some.injEq] at h;subst h;intro x hx;simp at hx;rcases hx with rfl | rfl
     ·exact⟨.inr (by rw[hob]; simp),by simp⟩
     ·exact⟨.inl (hfree d hd hc.2.2.2),by simp,.inr (hfree d hd hc.2.2.2)⟩
    ·cases h
   ·cases h
  ·split at h
   ·rename_i e' z' d _ _ hd;split at h
    ·rename_i hc;simp only[Option.some.injEq] at h;subst h;intro x hx;simp at hx;subst hx;exact⟨.inl (hfree d hd hc.2),by simp,.inr (hfree d hd hc.2)⟩
    ·cases h
   ·cases h
  ·cases h
 have keyJ:∀ t t',oV P t t' o.dst (aF s.hp o.dst) (as.toList.map s.arg)=some e->∀ x∈e.wr,(s.hp x.1=none\/∀ t cs,s.hp x.1≠some (.box t cs))/\(∀ t cs,x.2 ≠ .box t cs)/\((∀ t z l,x.2 ≠ .arr t z l)\/s.hp x.1=none):=by
  intro t t' h;unfold oV at h;split at h
  ·rename_i e' he;injection h with h
   subst h;exact wU t t' he
  ·exact keyB t t' h
 rcases jH h with h | h
 ·split at h
  ·split at h
   ·exact key _ h
   ·cases h
  ·cases h
 ·split at h
  ·split at h
   ·exact keyT _ h
   ·exact keyJ _ _ h
  ·cases h
theorem eP {s s':St} {o:Oper} {e:Eff} (hg:pY ops s' o=pY ops s o) (h:Stp P Γ s o e->Stp P Γ s' o e):gy P Γ ops s o e->gy P Γ ops s' o e:=by
 rintro (⟨h1,h2⟩ | ⟨h1,h2⟩)
 ·exact .inl ⟨hg.trans h1,h h2⟩
 ·exact .inr ⟨hg.trans h1,h2⟩
theorem EK (s:St) (d:Option Nat) (e:Eff) (t:Nat):(s.app d e).tm t=if d=some t then e.res else s.tm t:=by
 cases d with
 | none=>rfl
 | some k =>
  show upd s.tm k e.res t=_;unfold upd;by_cases h:t=k
  ·subst h; simp
  ·rw[if_neg h,if_neg (fun e=>h (by injection e with e; exact e.symm))]
theorem n8 {s:St} {d:Option Nat} {e:Eff} {x:Operand} (h:∀ k,d=some k->x ≠ .tmp k):(s.app d e).ev x=s.ev x:=by
 cases x with
 | tmp t =>
  show (s.app d e).tm t=s.tm t;rw[EK,if_neg (fun hd=>h t hd rfl)]
 | _=>rfl
theorem jr (hp:Hp):∀ (l:List (Nat×cu)) (k:Nat),(∀ x∈l,x.1≠k)->eJ hp l k=hp k
 | [],_,_=>rfl
 | x::l,k,h=>by
  show eJ (upd hp x.1 (some x.2)) l k=hp k;rw[jr _ l k fun y hy=>h y (List.mem_cons_of_mem _ hy)];unfold upd;rw[if_neg (fun e=>h x List.mem_cons_self e.symm)]
theorem CH:∀ (m:List (Nat×cu)) (hp:Hp) (k:Nat) (v:cu),(∀ y∈m,k≠y.1)->eJ (upd hp k (some v)) m=upd (eJ hp m) k (some v)
 | [],_,_,_,_=>rfl
 | y::m,hp,k,v,hx=>by
  show eJ (upd (upd hp k (some v)) y.1 (some y.2)) m=upd (eJ (upd hp y.1 (some y.2)) m) k (some v);rw[← CH m _ k v fun z hz=>hx z (List.mem_cons_of_mem _ hz)];congr 1;funext j
  have:=hx y List.mem_cons_self;unfold upd;by_cases h1:j=y.1
  ·rw[if_pos h1,if_neg (fun e=>this (e.symm.trans h1)),if_pos h1]
  ·rw[if_neg h1];by_cases h2:j=k
   ·rw[if_pos h2,if_pos h2]
   ·rw[if_neg h2,if_neg h2,if_neg h1]
theorem zN:∀ (l m:List (Nat×cu)) (hp:Hp),(∀ x∈l,∀ y∈m,x.1≠y.1)->eJ (eJ hp l) m=eJ (eJ hp m) l
 | [],m,hp,_=>rfl
 | x::l,m,hp,h=>by
  show eJ (eJ (upd hp x.1 (some x.2)) l) m=eJ (upd (eJ hp m) x.1 (some x.2)) l;rw[zN l m _ fun a ha b hb=>h a (List.mem_cons_of_mem _ ha) b hb];congr 1;exact CH m hp x.1 x.2 (h x List.mem_cons_self)
theorem qA {s:St} {o:Oper} {e:Eff} (h:gy P Γ ops s o e):(cls Γ o = .N\/cls Γ o = .R->e.wr=[])/\(cls Γ o = .A->∀ x∈e.wr,s.hp x.1=none/\kl o x.1)/\(cls Γ o = .P->∀ x∈e.wr,(s.hp x.1=none\/∀ t cs,s.hp x.1≠some (.box t cs))/\(∀ t cs,x.2 ≠ .box t cs)/\((∀ t z l,x.2 ≠ .arr t z l)\/s.hp x.1=none)):=by
 rcases h with⟨_,h⟩ | ⟨_,rfl⟩
 ·exact⟨fun hN=>Qz hN h,fun hA=>QA hA h,fun hP=>QB hP h⟩
 ·exact⟨fun _=>rfl,(fun _ x hx=>by cases hx),(fun _ x hx=>by cases hx)⟩
theorem ey {s:St} {oi oj:Oper} {ei:Eff} (h1:∀ d,oi.dst=some d->d∉oj.looksAt ops.toArray):pY ops (s.app oi.dst ei) oj=pY ops s oj:=by
 unfold pY;cases hg:oj.guard with
 | none=>rfl
 | some gb =>
  obtain⟨g,b⟩:=gb;have:kC ops (s.app oi.dst ei) g=kC ops s g:=by
   unfold kC;cases hd:(ops[g]?).bind (·.dst) with
   | none=>rfl
   | some d =>
    dsimp only;rw[EK,if_neg];intro he;refine h1 d he ?_;unfold Oper.looksAt;refine List.mem_append_right _ ?_;rw[hg];have:((ops.toArray[g]?).bind (·.dst))=some d:=by simpa using hd
    simp [hd]
  simp only[this]
theorem xB:∀ (l:List (Nat×cu)) (hp:Hp) (i:Nat),(∀ x∈l,∀ t cs,x.2 ≠ .box t cs)->∀ {t:TypeId} {cs:List av},eJ hp l i=some (.box t cs)->eJ hp l i=hp i
 | [],_,_,_,_,_,_=>rfl
 | x::l,hp,i,h,t,cs,he=>by
  have he:eJ (upd hp x.1 (some x.2)) l i=some (.box t cs):=he;show eJ (upd hp x.1 (some x.2)) l i=_;have:=xB l _ i (fun y hy=>h y (List.mem_cons_of_mem _ hy)) he;rw[this];rw[this] at he;unfold upd at he ⊢;by_cases hi:i=x.1
  ·rw[if_pos hi] at he;injection he with he
   exact absurd he (h x List.mem_cons_self t cs)
  ·rw[if_neg hi]
theorem xC:∀ (l:List (Nat×cu)) (hp:Hp) (i:Nat),(∀ x∈l,x.1=i->∀ t z l,x.2 ≠ .arr t z l)->∀ {t:TypeId} {z:Nat} {cs:List (List PV)},eJ hp l i=some (.arr t z cs)->eJ hp l i=hp i
 | [],_,_,_,_,_,_,_=>rfl
 | x::l,hp,i,h,t,z,cs,he=>by
  have he:eJ (upd hp x.1 (some x.2)) l i=some (.arr t z cs):=he;show eJ (upd hp x.1 (some x.2)) l i=_;have:=xC l _ i (fun y hy=>h y (List.mem_cons_of_mem _ hy)) he;rw[this];rw[this] at he;unfold upd at he ⊢;by_cases hi:i=x.1
  ·rw[if_pos hi] at he;injection he with he
   exact absurd he (h x List.mem_cons_self hi.symm t z cs)
  ·rw[if_neg hi]
theorem zO {s:St} {oi oj:Oper} {ei ej:Eff} (hwf:WF s) (hap:oi.apart ops.toArray oj=true) (hc:oB Γ oi oj=true) (hbi:∀ d:Nat,oi.dst=some d->d<10000) (hbj:∀ d:Nat,oj.dst=some d->d<10000)
  (hi:gy P Γ ops s oi ei):(gy P Γ ops (s.app oi.dst ei) oj ej->gy P Γ ops s oj ej)/\((xv oj.op=true->cls Γ oi ≠ .P)->gy P Γ ops s oj ej->gy P Γ ops (s.app oi.dst ei) oj ej):=by
 obtain⟨h1,h2,h3⟩:=Oper.apart_spec hap;have hev:∀ x∈Op.bq oj.op,(s.app oi.dst ei).ev x=s.ev x:=fun x hx=>n8 fun k hk hxk=>h1 k hk (iO (by rw[← hxk]; exact hx));have hcases:ei.wr=[]\/cls Γ oj = .N\/(cls Γ oi = .A/\(cls Γ oj = .A\/cls Γ oj = .R))\/(cls Γ oi = .P/\cls Γ oj = .R):=by
  have hc:=ua hc;have hw:=(qA hi).1;cases hci:cls Γ oi <;> cases hcj:cls Γ oj <;> rw[hci,hcj] at hc <;> first | (cases hc; done) | (exact .inl (hw (.inl hci))) | (exact .inl (hw (.inr hci))) | (exact .inr (.inl rfl)) | (exact .inr (.inr (.inl ⟨rfl,.inl rfl⟩))) | (exact .inr (.inr (.inl ⟨rfl,.inr rfl⟩))) | (exact .inr (.inr (.inr ⟨rfl,rfl⟩)))
 have hRb:cls Γ oj = .R->gy P Γ ops s oj ej\/gy P Γ ops (s.app oi.dst ei) oj ej->True:=fun _ _=>trivial;rcases hcases with hw | hN | hA | hP
 ·
  have hh:(s.app oi.dst ei).hp=s.hp:=by show eJ s.hp ei.wr=s.hp; rw[hw]; rfl
  constructor
  ·exact eP (ey h1).symm (ff (fun x hx=>(hev x hx).symm) (fun _ x hx i hid=>by rw[hh]) (fun _ _ k hk=>by rw[hh]) (fun _=>hh.symm))
  ·intro _;exact eP (ey h1) (ff hev (fun _ x hx i hid=>by rw[hh]) (fun _ _ k hk=>by rw[hh]) (fun _=>hh))
 ·constructor
  ·exact eP (ey h1).symm (ff (fun x hx=>(hev x hx).symm) (fun h=>absurd hN h) (fun h=>absurd hN h) (fun h=>by rw[hN] at h; cases h))
  ·intro _;exact eP (ey h1) (ff hev (fun h=>absurd hN h) (fun h=>absurd hN h) (fun h=>by rw[hN] at h; cases h))
 ·obtain⟨hA,hj⟩:=hA;have hnW:cls Γ oj ≠ .W:=by rcases hj with h | h <;> rw[h] <;> simp
  have hhp:∀ x∈Op.bq oj.op,∀ i∈(s.ev x).ids,(s.app oi.dst ei).hp i=s.hp i:=fun x hx i hid=>by
   refine jr _ _ _ fun y hy he=>?_;have h5:=((qA hi).2.1 hA y hy).1;have h6:=hwf.ev x i hid;rw[← he] at h6;exact h6 h5
  have hfr:∀ k,kl oj k->(s.app oi.dst ei).hp k=s.hp k:=fun k hk=>by
   refine jr _ _ _ fun y hy he=>?_;obtain⟨d,m,hd,hm⟩:=((qA hi).2.1 hA y hy).2;obtain⟨d',m',hd',hm'⟩:=hk;have b1:=hbi d hd;have b2:=hbj d' hd';have:d=d':=by omega
   subst this;exact h2 d hd hd'
  constructor
  ·exact eP (ey h1).symm (ff (fun x hx=>(hev x hx).symm) (fun hN x hx i hid=>(hhp x hx i (by rw[← hev x hx]; exact hid)).symm) (fun hN _ k hk=>(hfr k hk).symm) (fun h=>absurd h hnW))
  ·intro _;exact eP (ey h1) (ff hev (fun _=>hhp) (fun _ _=>hfr) (fun h=>absurd h hnW))
 ·obtain⟨hP,hR⟩:=hP;have hnW:cls Γ oj ≠ .W:=by rw[hR]; simp
  have hbx:inL Γ.mv oj.dst=false\/inL Γ.mv oj.dst=true:=by cases inL Γ.mv oj.dst <;> simp
  have hRR:inL Γ.mv oj.dst=false/\(inL Γ.bx oj.dst && oA oj.op)=true\/∀ q,oA oj.op=q->(inL Γ.mv oj.dst && q)=false/\(inL Γ.bx oj.dst && q)=true:=by
   right;rintro q rfl;have hR':=hR;unfold cls at hR';split at hR'
   ·cases hR'
   split at hR'
   ·cases hR'
   split at hR'
   ·cases hR'
   ·rename_i h;split at hR'
    ·rename_i h'; exact⟨by simpa using h,h'⟩
    ·exact absurd hR' EI
  have hb:(inL Γ.mv oj.dst && oA oj.op)=false/\(inL Γ.bx oj.dst && oA oj.op)=true:=by
   rcases hRR with⟨h,h'⟩ | h
   ·exact⟨by rw[h]; rfl,h'⟩
   ·exact h _ rfl
  have hmvf:inL Γ.mv oj.dst=false:=by
   have h5:=hb.1;have h6:=hb.2;rw[Bool.and_eq_true] at h6;rw[h6.2] at h5
   simpa using h5
  have hPc:=hP;have hP:=(qA hi).2.2 hP;have hupd:∀ i,(∃ t cs,s.hp i=some (.box t cs))->(s.app oi.dst ei).hp i=s.hp i:=fun i ⟨t,cs,hi2⟩=>by
   refine jr _ _ _ fun y hy he=>?_;rcases (hP y hy).1 with h | h
   ·rw[he,hi2] at h; cases h
   ·exact h t cs (by rw[he,hi2])
  have hback:∀ i,(∃ t cs,(s.app oi.dst ei).hp i=some (.box t cs))->(s.app oi.dst ei).hp i=s.hp i:=fun i ⟨t,cs,hi2⟩ =>
   xB _ _ _ (fun y hy=>(hP y hy).2.1) hi2
  have hback2:∀ i,s.hp i≠none->(∃ t z l,(s.app oi.dst ei).hp i=some (.arr t z l))->(s.app oi.dst ei).hp i=s.hp i:=fun i hn ⟨t,z,l,hi2⟩ =>
   xC _ _ _ (fun y hy he=>by
    rcases (hP y hy).2.2 with h | h
    ·exact h
    ·rw[he] at h; exact absurd h hn) hi2
  have hno:∀ s,Stp P Γ s oj ej->∀ x∈Op.bq oj.op,∀ i∈(s.ev x).ids,if xv oj.op=true then ∃ t z l,s.hp i=some (.arr t z l) else ∃ t cs,s.hp i=some (.box t cs):=fun s h=>by
   have hmo:oA oj.op=true:=by have h6:=hb.2; rw[Bool.and_eq_true] at h6; exact h6.2
   unfold Stp at h;split at h
   ·rename_i hop; rw[hop] at hmo; cases hmo
   ·exact h.2.2.1 hmvf hb.2
  constructor
  ·exact eP (ey h1).symm fun hst=>ff (fun x hx=>(hev x hx).symm) (fun _ x hx i hid=>by
    have h7:=hno _ hst x hx i hid;have h8:s.hp i≠none:=hwf.ev x i (by rw[← hev x hx]; exact hid);split at h7
    ·exact (hback2 i h8 h7).symm
    ·exact (hback i h7).symm) (fun _ h=>absurd hR h) (fun h=>absurd h hnW) hst
  ·intro hsl;have hsl':xv oj.op=false:=by
    cases h:xv oj.op with
    | false=>rfl
    | true=>exact absurd hPc (hsl h)
   exact eP (ey h1) fun hst=>ff hev (fun _ x hx i hid=>by
    have h7:=hno _ hst x hx i hid;rw[hsl',if_neg (by simp)] at h7;exact hupd i h7) (fun _ h=>absurd hR h) (fun h=>absurd h hnW) hst
theorem pZ {s:St} {oi oj:Oper} {ei ej:Eff} (hap:oj.apart ops.toArray oi=true) (hw:ej.wr=[]) (hi:gy P Γ ops s oi ei):gy P Γ ops (s.app oj.dst ej) oi ei:=by
 obtain⟨h1,h2,h3⟩:=Oper.apart_spec hap;have hev:∀ x∈Op.bq oi.op,(s.app oj.dst ej).ev x=s.ev x:=fun x hx=>n8 fun k hk hxk=>h1 k hk (iO (by rw[← hxk]; exact hx));have hh:(s.app oj.dst ej).hp=s.hp:=by show eJ s.hp ej.wr=s.hp; rw[hw]; rfl
 exact eP (ey h1) (ff hev (fun _ x hx i hid=>by rw[hh]) (fun _ _ k hk=>by rw[hh]) (fun _=>hh)) hi
theorem tp {s s':St} {σ:Ren} {x:av} {p:PV} (h:∀ i,s.hp i≠none->s'.hp i=s.hp i) (hs:lW σ s x p):lW σ s' x p:=by
 unfold lW at hs ⊢;split at hs <;> first | exact hs | trivial | skip
 ·rename_i o l;have hn:s.hp o≠none:=fun e=>by rw[e] at hs; exact hs.1.elim
  rw[h o hn]; exact hs
 ·rename_i o k m;have hn:s.hp o≠none:=fun e=>by rw[e] at hs; exact hs.1.elim
  rw[h o hn]; exact hs
theorem vY {s s':St} {σ:Ren} (h:∀ i,s.hp i≠none->s'.hp i=s.hp i):∀ {xs:List av} {ps:List PV},mi σ s xs ps->mi σ s' xs ps
 | [],[],hs=>hs
 | [],_::_,hs=>hs.elim
 | _::_,[],hs=>hs.elim
 | _::_,_::_,hs=>⟨tp h hs.1,vY h hs.2⟩
theorem zP {s s':St} {σ:Ren} (h:∀ i,s.hp i≠none->s'.hp i=s.hp i):∀ {xs:List av} {l:List (List PV)},xi σ s xs l->xi σ s' xs l
 | [],[],hs=>hs
 | [],_::_,hs=>hs.elim
 | _::_,[],hs=>hs.elim
 | _::_,y::_,hs=>by
  refine⟨?_,zP h hs.2⟩;have h1:=hs.1;split at h1
  ·exact tp h h1
  ·exact h1.elim
theorem zQ {s s':St} {σ:Ren} {hps:List (Nat×cu)} {x y:av} (h:∀ i,s.hp i≠none->s'.hp i=s.hp i) (hs:pW σ s hps x y):pW σ s' hps x y:=by
 unfold pW at hs ⊢;split at hs <;> first | exact hs | trivial | skip
 ·rename_i o l;have hn:s.hp o≠none:=fun e=>by rw[e] at hs; exact hs.1.elim
  rw[h o hn];refine⟨?_,hs.2⟩;have h3:=hs.1;split at h3
  ·exact h3
  ·exact zP h h3
  ·exact h3.elim
 ·rename_i o a b z l;have hn:s.hp o≠none:=fun e=>by rw[e] at hs; exact hs.2.1.elim
  rw[h o hn]; exact hs
 ·exact tp h hs
 ·rename_i o f cs f2;obtain⟨h1,h2,h3⟩:=hs;have hn:s.hp o≠none:=fun e=>by rw[e] at h2; exact h2.elim
  refine⟨h1,?_,h3⟩;rw[h o hn];split at h2
  ·exact vY h h2
  ·exact h2.elim
theorem qB {s s':St} {σ:Ren} {hps:List (Nat×cu)} (h:∀ i,s.hp i≠none->s'.hp i=s.hp i):∀ {xs ys:List av},lX σ s hps xs ys->lX σ s' hps xs ys
 | [],[],hs=>hs
 | [],_::_,hs=>hs.elim
 | _::_,[],hs=>hs.elim
 | _::_,_::_,hs=>⟨zQ h hs.1,qB h hs.2⟩
theorem zR {s s':St} {σ:Ren} {hps:List (Nat×cu)} {x y:Cmp} (h:∀ i,s.hp i≠none->s'.hp i=s.hp i) (hs:uW σ s hps x y):uW σ s' hps x y:=by
 unfold uW at hs ⊢;split at hs
 ·exact zQ h hs
 ·exact qB h hs
 ·exact hs.elim
theorem xD {s s':St} {σ:Ren} {hps:List (Nat×cu)} (h:∀ i,s.hp i≠none->s'.hp i=s.hp i):∀ {xs ys:List Cmp},s7 σ s hps xs ys->s7 σ s' hps xs ys
 | [],[],hs=>hs
 | [],_::_,hs=>hs.elim
 | _::_,[],hs=>hs.elim
 | _::_,_::_,hs=>⟨zR h hs.1,xD h hs.2⟩
theorem H5 {s s':St} {σ:Ren} {hps:List (Nat×cu)} {x y:Slot} (h:∀ i,s.hp i≠none->s'.hp i=s.hp i) (hs:rC σ s hps x y):rC σ s' hps x y:=by
 unfold rC at hs ⊢;split at hs
 ·trivial
 ·exact zR h hs
 ·exact xD h hs
 ·exact hs.elim
theorem xE {s s':St} {σ:Ren} {hps:List (Nat×cu)} (h:∀ i,s.hp i≠none->s'.hp i=s.hp i):∀ {xs ys:List Slot},vT σ s hps xs ys->vT σ s' hps xs ys
 | [],[],hs=>hs
 | [],_::_,hs=>hs.elim
 | _::_,[],hs=>hs.elim
 | _::_,_::_,hs=>⟨H5 h hs.1,xE h hs.2⟩
theorem H6 {o:Oper} (h:wv o.op=true):∃ f a t,o.op = .call ⟨.value f,a,t⟩:=by
 unfold wv at h;split at h
 ·rename_i f a t hop; exact⟨_,_,_,hop⟩
 ·cases h
theorem EL {o:Oper} (h:Pt o.op=true):(∃ t,o.op = .alloc t)\/∃ t n ps,o.op = .buildSlice t n ps/\ps.toList=[]:=by
 unfold Pt at h;split at h
 ·rename_i t hop; exact .inl ⟨t,hop⟩
 ·rename_i t n ps hop; exact .inr ⟨t,n,ps,hop,by simpa using h⟩
 ·cases h
theorem p3 {s:St} {o:Oper} {e:Eff} (h:wv o.op=true):Stp P Γ s o e↔kz P Γ s o e:=by
 obtain⟨f,a,t,hop⟩:=H6 h;unfold Stp;rw[hop]
theorem Bg {s:St} {o:Oper} {e:Eff} (h:kz P Γ s o e):∀ x∈e.wr,s.hp x.1≠none\/kl o x.1:=by
 obtain⟨c,fo,f,caps,S,τ,vw,news,ho,hcal,hfo,hcb,hm,hok,hkp,rfl⟩:=h;intro x hx;obtain⟨y,hy,rfl⟩:=List.mem_map.1 hx;have hd:=fP hok.dom y hy;cases hl:ae (τ.map (fun x=>(x.2,x.1))++news) y.1 with
 | none=>exact absurd hl hd
 | some k =>
  have h2:rnN (τ.map (fun x=>(x.2,x.1))++news) y.1=k:=by
   show (ae (τ.map (fun x=>(x.2,x.1))++news) y.1).getD y.1=k;rw[hl]; rfl
  dsimp only;rw[h2];rcases List.mem_append.1 (cx hl) with h3 | h3
  ·obtain⟨x,hx,he⟩:=List.mem_map.1 h3;injection he with e1 e2
   rw[← e2];exact .inl (fP hok.tau x hx).2.1
  ·exact .inr (fP hok.fresh _ h3).2.2
theorem zi {s s':St} {o:Oper} {e:Eff} (hwf:WF s) (hev:∀ x∈Op.bq o.op,s'.ev x=s.ev x) (hmono:∀ i,s.hp i≠none->s'.hp i=s.hp i) (hfr:∀ k,kl o k->s'.hp k=s.hp k)
  (h:kz P Γ s o e):kz P Γ s' o e:=by
 have hwr:=Bg h;obtain⟨c,fo,f,caps,S,τ,vw,news,ho,hcal,hfo,hcb,hm,hok,hkp,rfl⟩:=h;have hops:Op.bq o.op=fo::c.args.toList:=by rw[ho]; simp [Op.bq,hcal]
 have hca:gJ s' c f caps=gJ s c f caps:=by
  unfold gJ;rw[List.map_congr_left fun x hx=>hev x (by rw[hops]; exact List.mem_cons_of_mem _ hx)]
 have hids:∀ x∈gJ s c f caps,∀ i∈x.ids,s'.hp i=s.hp i:=fun x hx i hi=>by
  refine hmono i ?_;rcases ub hx with hx | hx
  ·obtain⟨y,hy,rfl⟩:=List.mem_map.1 hx;exact hwf.ev y i hi
  ·obtain⟨y,hy,rfl⟩:=List.mem_map.1 hx;refine hwf.ev fo i ?_;rw[hfo];simp [Slot.ids,Cmp.ids,Cmp.leaves,av.ids] at hi ⊢;subst hi; exact hy
 refine⟨c,fo,f,caps,S,τ,vw,news,ho,hcal,(hev fo (by rw[hops]; exact List.mem_cons_self)).trans hfo,hcb,hm,?_,fun x hx hk=>?_,rfl⟩
 rotate_left
 ·have e:s'.hp x.1=s.hp x.1:=by
   rcases hwr x hx with h1 | h1
   ·exact hmono _ h1
   ·exact hfr _ h1
  rw[e];exact hkp x hx hk
 rw[hca];refine⟨fun h x hx i hi=>(by
  have:=hok.lt h x hx i hi;rw[hmono i this.1]; exact this),xE hmono hok.args,nR (fun q _ hq=>?_) hok.gM,hok.nd0,hok.nd1,hok.nd2,hok.nd3,nR (fun x _ hx=>⟨hx.1,by rw[hmono _ hx.2.1]; exact hx.2.1,hx.2.2⟩) hok.tau,hok.dom,nR (fun x _ hx=>⟨by rw[hfr x.2 hx.2.2]; exact hx.1,hx.2⟩) hok.fresh,hok.flat,hok.pure⟩
 unfold HSub at hq ⊢;split
 ·rename_i o2 hl;rw[hl] at hq;dsimp only at hq;have hn:s.hp o2≠none:=by
   obtain⟨x,hx,he⟩:=List.mem_map.1 (cx hl);have:=(fP hok.tau x hx).2.1;injection he with e1 e2
   rw[← e2]; exact this
  rw[hmono o2 hn];unfold AZ at hq ⊢;split at hq <;> rename_i heq1 <;> first | trivial | skip
  ·exact⟨hq.1,qB hmono hq.2⟩
  all_goals first
   | exact hq
   | exact⟨hq.1,qB hmono hq.2⟩
 ·rename_i hl;rw[hl] at hq;exact hq
theorem EM {s:St} {o:Oper} {e:Eff} (ha:alF Γ o=true) (h:Stp P Γ s o e):∃ d:Nat,o.dst=some d/\s.hp d=none/\(∀ x∈e.wr,x.1=d)/\∀ s':St,s'.hp d=none->Stp P Γ s' o e:=by
 unfold alF at ha;rw[Bool.and_eq_true] at ha;have hfz:inL Γ.fz o.dst=false:=by simpa using ha.2
 have gen:∀ F:Bool->Option Eff,(∀ s:St,opX P Γ s o=F (aF s.hp o.dst))->F false=none->(∀ e,F true=some e->∀ d,o.dst=some d->∀ x∈e.wr,x.1=d)->(o.dst=none->F true=none)->(∀ s e,Stp P Γ s o e↔opX P Γ s o=some e)->∃ d:Nat,o.dst=some d/\s.hp d=none/\(∀ x∈e.wr,x.1=d)/\∀ s':St,s'.hp d=none->Stp P Γ s' o e:=by
  intro F hx hF1 hF2 hF3 hS;have h:=(hS s e).1 h;rw[hx] at h;cases hd:o.dst with
  | none =>
   cases hf:aF s.hp o.dst with
   | true=>rw[hf,hF3 hd] at h; cases h
   | false=>rw[hf,hF1] at h; cases h
  | some d =>
   cases hf:aF s.hp o.dst with
   | false=>rw[hf,hF1] at h; cases h
   | true =>
    rw[hf] at h;have hf':s.hp d=none/\d<1000000:=by rw[hd] at hf; simpa [aF] using hf
    refine⟨d,rfl,hf'.1,hF2 e h d hd,fun s' hs'=>(hS s' e).2 ?_⟩;rw[hx,hd,show aF s'.hp (some d)=true by simpa [aF] using ⟨hs',hf'.2⟩,h]
 rcases EL ha.1 with⟨t,hop⟩ | ⟨t,n,ps,hop,hps⟩
 ·refine gen (fun b=>kJ P t o.dst b []) (fun s=>?_) ?_ ?_ ?_ fun s e=>?_
  ·rw[jG (by rw[hfz,Bool.false_and]),hop];simp only[opE,opY,iB,opV,fQ,fI,Op.bq,List.map_nil]
  ·simp only[kJ];split
   ·rfl
   ·rfl
  ·intro e he d hd x hx;simp only[kJ] at he;rw[hd] at he;split at he
   ·rename_i d' cs hd' _;injection hd' with hd'
    subst hd';simp only[if_true,Option.some.injEq] at he;rw[← he] at hx
    simpa using congrArg Prod.fst (List.mem_singleton.1 hx)
   ·cases he
  ·intro hd;simp only[kJ];rw[hd]
  ·unfold Stp rH;rw[hop];exact⟨fun h=>h.1,fun h=>⟨h,fun _ x hx=>by simp [Op.bq] at hx,fun _ _ x hx=>by simp [Op.bq] at hx,fun k hk=>(by rw[hop] at hk; cases hk)⟩⟩
 ·refine gen (fun b=>orE (dx P t n (ps.toList.map (·.1)) o.dst b []) (fN P t n (ps.toList.map (·.1)) o.dst b [])) (fun s=>?_) ?_ ?_ ?_ fun s e=>?_
  ·rw[jG (by rw[hfz,Bool.false_and]),hop];simp only[opE,opY,opV,Op.bq,hps,List.map_nil]
  ·unfold dx fN orE;split
   ·rename_i e he;split at he
    ·split at he
     ·rename_i hc; exact absurd hc.2.1 (by simp)
     ·cases he
    ·cases he
   ·split
    ·split
     ·rename_i hc; exact absurd hc.2.1 (by simp)
     ·rfl
    ·rfl
  ·intro e he d hd x hx;rw[hd] at he;rcases jH he with he | he
   ·unfold dx at he;split at he
    ·rename_i hd';injection hd' with hd'
     subst hd';split at he
     ·split at he
      ·simp only[Option.some.injEq] at he;rw[← he] at hx
       simpa using congrArg Prod.fst (List.mem_singleton.1 hx)
      ·cases he
     ·cases he
    ·cases he
   ·unfold fN at he;split at he
    ·rename_i hd';injection hd' with hd'
     subst hd';split at he
     ·split at he
      ·simp only[Option.some.injEq] at he;rw[← he] at hx
       simpa using congrArg Prod.fst (List.mem_singleton.1 hx)
      ·cases he
     ·cases he
    ·cases he
  ·intro hd;rw[hd];unfold dx fN orE;split
   ·rename_i e he;split at he
    ·rename_i hd' ; cases hd'
    ·cases he
   ·split
    ·rename_i hd'; cases hd'
    ·rfl
  ·unfold Stp rH;rw[hop];exact⟨fun h=>h.1,fun h=>⟨h,fun _ x hx=>by simp [Op.bq,hps] at hx,fun _ _ x hx=>by simp [Op.bq,hps] at hx,fun k hk=>(by rw[hop] at hk; cases hk)⟩⟩
theorem EN {s:St} {oi oj:Oper} {ei ej:Eff} (hwf:WF s) (hap:oi.apart ops.toArray oj=true) (hap':oj.apart ops.toArray oi=true) (hc:wv oi.op=true\/decide (cls Γ oi = .P)=true) (ha:alF Γ oj=true) (hbi:∀ d:Nat,oi.dst=some d->d<10000) (hbj:∀ d:Nat,oj.dst=some d->d<10000)
  (hi:gy P Γ ops s oi ei) (hj:gy P Γ ops (s.app oi.dst ei) oj ej):gy P Γ ops s oj ej/\gy P Γ ops (s.app oj.dst ej) oi ei/\∀ x∈ei.wr,∀ y∈ej.wr,x.1≠y.1:=by
 obtain⟨h1,h2,h3⟩:=Oper.apart_spec hap;obtain⟨h1',h2',h3'⟩:=Oper.apart_spec hap';rcases hj with⟨hg,hst⟩ | ⟨hg,rfl⟩
 ·obtain⟨d,hd,hfree,hwj,hall⟩:=EM ha hst;have hnot:∀ x∈ei.wr,x.1≠d:=fun x hx he=>by
   exact Cn s.hp ei.wr d ⟨x.2,by rw[← he]; exact hx⟩ hfree
  have hd0:s.hp d=none:=by
   have:eJ s.hp ei.wr d=s.hp d:=jr _ _ _ fun y hy he=>hnot y hy he;rw[← this]; exact hfree
  refine⟨.inl ⟨(ey h1).symm.trans hg,hall s hd0⟩,?_,fun x hx y hy he=>hnot x hx (he.trans (hwj y hy))⟩;have hoth:∀ i,i≠d->(s.app oj.dst ej).hp i=s.hp i:=fun i hid=>jr _ _ _ fun y hy he=>hid (by rw[← he,hwj y hy]);have hfr:∀ k,kl oi k->(s.app oj.dst ej).hp k=s.hp k:=fun k hk=>hoth k fun e=>by
   obtain⟨d',m',hd',hm'⟩:=hk;have b1:=hbi d' hd';have b2:=hbj d hd;have:d'=d:=by omega
   subst this;exact h2 _ hd' hd
  have hev:∀ x∈Op.bq oi.op,(s.app oj.dst ej).ev x=s.ev x:=fun x hx=>n8 fun k hk hxk=>h1' k hk (iO (by rw[← hxk]; exact hx));refine eP (ey h1') (fun h=>?_) hi;rcases hc with hc | hc
  ·rw[p3 hc] at h ⊢;exact zi hwf hev (fun i hi=>hoth i fun e=>hi (by rw[e]; exact hd0)) hfr h
  ·have hc:=of_decide_eq_true hc;exact ff hev (fun _ x hx i hid=>hoth i fun e=>hwf.ev x i hid (by rw[e]; exact hd0)) (fun _ _=>hfr) (fun h=>by rw[hc] at h; cases h) h
 ·refine⟨.inr ⟨(ey h1).symm.trans hg,rfl⟩,pZ hap' rfl hi,fun x hx y hy=>by cases hy⟩
theorem xF {s:St} {o:Oper} {e:Eff} (hmf:mvF Γ o=true) (h:Stp P Γ s o e):e.wr=[]:=by
 obtain⟨hm,hfz⟩:=xx hmf;have key:(∀ f a t,o.op ≠ .call ⟨.value f,a,t⟩)->orE (opE P o.op o.dst (aF s.hp o.dst) ((Op.bq o.op).map s.arg)) (opY P o.op o.dst (aF s.hp o.dst) ((Op.bq o.op).map s.arg))=some e:=fun hnc=>by
  unfold Stp at h;split at h
  ·rename_i f a t hop; exact absurd hop (hnc f a t)
  ·rw[← jG (Γ:=Γ) (by rw[hfz,Bool.false_and])]; exact h.1
 unfold oA at hm;split at hm <;> rename_i hop <;> first | (cases hm; done) | skip
 all_goals
  have h:=key (by simp [hop]);rw[hop] at h;simp only[opE,opY,iB,opV,fQ,fI] at h
 ·unfold mW at h;split at h
  ·split at h
   ·rw[Option.bind_eq_some_iff] at h;obtain⟨c,_,h⟩:=h;exact (mb h)
   ·cases h
  ·split at h <;> (try split at h) <;> first | exact (iC h) | cases h
  ·split at h <;> (try split at h) <;> (try split at h) <;> first | exact (iC h) | cases h
  ·cases h
 ·rcases jH h with h | h
  ·unfold eX at h;split at h <;> (try split at h) <;> (try split at h) <;> first | exact (iC h) | cases h
  ·unfold pL at h;split at h <;> (try split at h) <;> (try split at h) <;> (try split at h) <;> first | exact (iC h) | cases h
 ·unfold j0 at h;split at h <;> (try split at h) <;> (try split at h) <;> first | exact (mb h) | exact (iC h) | cases h
 ·split at h
  ·unfold me at h;split at h <;> (try split at h) <;> first | exact (mb h) | exact (iC h) | cases h
  ·cases h
theorem JQ {o:Oper} (hmf:mvF Γ o=true):cls Γ o ≠ .W:=by
 obtain⟨hm,_⟩:=xx hmf;have h0:wu Γ o = .A:=by
  unfold oA at hm;unfold wu;split at hm <;> rename_i hop <;> first | (cases hm; done) | (rw[hop])
 unfold cls;split
 ·simp
 ·split
  ·simp
  ·split
   ·simp
   ·split
    ·simp
    ·rw[h0]; simp
theorem sy (i:Nat):∀ (l:List (Nat×cu)) (hp:Hp),(∀ x∈l,x.1=i->hp i=some x.2)->eJ hp l i=hp i
 | [],_,_=>rfl
 | x::l,hp,h=>by
  show eJ (upd hp x.1 (some x.2)) l i=hp i;have e:upd hp x.1 (some x.2) i=hp i:=by
   unfold upd;split
   ·rename_i he; exact (h x List.mem_cons_self he.symm).symm
   ·rfl
  rw[sy i l _ fun y hy he=>by rw[e]; exact h y (List.mem_cons_of_mem _ hy) he,e]
theorem zS {s:St} {o:Oper} {e:Eff} (hk:qp Γ o=true) (h:kz P Γ s o e):∀ x∈e.wr,s.hp x.1=none\/s.hp x.1=some x.2:=by
 obtain⟨c,fo,f,caps,S,τ,vw,news,ho,hcal,hfo,hcb,hm,hok,hkp,rfl⟩:=h;exact fun x hx=>hkp x hx (by rw[hk]; rfl)
theorem EO {s:St} {o:Oper} {e:Eff} {i:Nat} (hk:nE Γ o i=true) (h:kz P Γ s o e):∀ x∈e.wr,x.1=i->s.hp x.1=none\/s.hp x.1=some x.2:=by
 obtain⟨c,fo,f,caps,S,τ,vw,news,ho,hcal,hfo,hcb,hm,hok,hkp,rfl⟩:=h;exact fun x hx he=>hkp x hx (by rw[he,hk,Bool.or_true])
theorem H7 {s:St} {oi oj:Oper} {ei ej:Eff} (hwf:WF s) (hap:oi.apart ops.toArray oj=true) (hap':oj.apart ops.toArray oi=true) (hc:wv oi.op=true) (hk:qp Γ oi=true) (hr:mvF Γ oj=true) (hbi:∀ d:Nat,oi.dst=some d->d<10000) (hbj:∀ d:Nat,oj.dst=some d->d<10000)
  (hi:gy P Γ ops s oi ei) (hj:gy P Γ ops (s.app oi.dst ei) oj ej):gy P Γ ops s oj ej/\gy P Γ ops (s.app oj.dst ej) oi ei/\∀ x∈ei.wr,∀ y∈ej.wr,x.1≠y.1:=by
 obtain⟨h1,h2,h3⟩:=Oper.apart_spec hap;have hw:∀ x∈ei.wr,s.hp x.1≠none\/kl oi x.1:=by
  rcases hi with⟨_,h⟩ | ⟨_,rfl⟩
  ·exact Bg ((p3 hc).1 h)
  ·intro x hx; cases hx
 have hkeep:∀ x∈ei.wr,s.hp x.1=none\/s.hp x.1=some x.2:=by
  rcases hi with⟨_,h⟩ | ⟨_,rfl⟩
  ·exact zS hk ((p3 hc).1 h)
  ·intro x hx; cases hx
 have hsame:∀ i,s.hp i≠none->(s.app oi.dst ei).hp i=s.hp i:=fun i hn=>sy i ei.wr s.hp fun x hx he=>by
  rcases hkeep x hx with h | h
  ·rw[he] at h; exact absurd h hn
  ·rw[← he]; exact h
 have hnone:∀ k,kl oj k->(s.app oi.dst ei).hp k=s.hp k:=fun k hkf=>by
  by_cases hn:s.hp k=none
  ·refine jr _ _ _ fun y hy he=>?_;rcases hw y hy with h | h
   ·rw[he] at h; exact h hn
   ·obtain⟨d,m,hd,hm⟩:=h;obtain⟨d',m',hd',hm'⟩:=hkf;have b1:=hbi d hd;have b2:=hbj d' hd';have:d=d':=by omega
    subst this;exact h2 _ hd hd'
  ·exact hsame k hn
 rcases hj with⟨hg,hst⟩ | ⟨hg,rfl⟩
 ·have hev:∀ x∈Op.bq oj.op,s.ev x=(s.app oi.dst ei).ev x:=fun x hx=>(n8 fun k hk hxk=>h1 k hk (iO (by rw[← hxk]; exact hx))).symm;have hst':Stp P Γ s oj ej:=ff hev (fun _ x hx i hi=>by
   rw[← hev x hx] at hi;exact (hsame i (hwf.ev x i hi)).symm) (fun _ _ k hk=>(hnone k hk).symm) (fun h=>absurd h (JQ hr)) hst
  refine⟨.inl ⟨(ey h1).symm.trans hg,hst'⟩,pZ hap' (xF hr hst') hi,fun x hx y hy=>?_⟩;rw[xF hr hst'] at hy; cases hy
 ·refine⟨.inr ⟨(ey h1).symm.trans hg,rfl⟩,pZ hap' rfl hi,fun x hx y hy=>by cases hy⟩
theorem H8 {s:St} {oi oj:Oper} {ei ej:Eff} (hwf:WF s) (hap:oi.apart ops.toArray oj=true) (hap':oj.apart ops.toArray oi=true) (hc:wv oj.op=true) (hk:qp Γ oj=true) (hr:mvF Γ oi=true) (hbi:∀ d:Nat,oi.dst=some d->d<10000) (hbj:∀ d:Nat,oj.dst=some d->d<10000)
  (hi:gy P Γ ops s oi ei) (hj:gy P Γ ops (s.app oi.dst ei) oj ej):gy P Γ ops s oj ej/\gy P Γ ops (s.app oj.dst ej) oi ei/\∀ x∈ei.wr,∀ y∈ej.wr,x.1≠y.1:=by
 obtain⟨h1,h2,h3⟩:=Oper.apart_spec hap;obtain⟨h1',h2',h3'⟩:=Oper.apart_spec hap';have hnw:ei.wr=[]:=by
  rcases hi with⟨_,h⟩ | ⟨_,rfl⟩
  ·exact xF hr h
  ·rfl
 have hh:s.hp=(s.app oi.dst ei).hp:=by show s.hp=eJ s.hp ei.wr; rw[hnw]; rfl
 have hj':gy P Γ ops s oj ej:=eP (ey h1).symm (ff (fun x hx=>(n8 fun k hk hxk=>h1 k hk (iO (by rw[← hxk]; exact hx))).symm) (fun _ x hx i hi=>by rw[← hh]) (fun _ _ k hk=>by rw[← hh]) (fun _=>hh)) hj;have hw:∀ x∈ej.wr,s.hp x.1≠none\/kl oj x.1:=by
  rcases hj' with⟨_,h⟩ | ⟨_,rfl⟩
  ·exact Bg ((p3 hc).1 h)
  ·intro x hx; cases hx
 have hkeep:∀ x∈ej.wr,s.hp x.1=none\/s.hp x.1=some x.2:=by
  rcases hj' with⟨_,h⟩ | ⟨_,rfl⟩
  ·exact zS hk ((p3 hc).1 h)
  ·intro x hx; cases hx
 have hsame:∀ i,s.hp i≠none->(s.app oj.dst ej).hp i=s.hp i:=fun i hn=>sy i ej.wr s.hp fun x hx he=>by
  rcases hkeep x hx with h | h
  ·rw[he] at h; exact absurd h hn
  ·rw[← he]; exact h
 have hnone:∀ k,kl oi k->(s.app oj.dst ej).hp k=s.hp k:=fun k hkf=>by
  by_cases hn:s.hp k=none
  ·refine jr _ _ _ fun y hy he=>?_;rcases hw y hy with h | h
   ·rw[he] at h; exact h hn
   ·obtain⟨d,m,hd,hm⟩:=h;obtain⟨d',m',hd',hm'⟩:=hkf;have b1:=hbj d hd;have b2:=hbi d' hd';have:d'=d:=by omega
    subst this;exact h2 _ hd' hd
  ·exact hsame k hn
 refine⟨hj',eP (ey h1') (fun hst=>ff (fun x hx=>n8 fun k hk hxk=>h1' k hk (iO (by rw[← hxk]; exact hx))) (fun _ x hx i hi=>hsame i (hwf.ev x i hi)) (fun _ _ k hk=>hnone k hk) (fun h=>absurd h (JQ hr)) hst) hi,fun x hx y hy=>?_⟩;rw[hnw] at hx; cases hx
theorem OO {s:St} {o:Oper} {e:Eff} {t:TypeId} {x v:Operand} (hop:o.op = .store t x v) (h:Stp P Γ s o e):∃ i w,e.wr=[(i,w)]/\i∈(s.ev x).ids/\((∃ bt cs cs',s.hp i=some (.box bt cs)/\w = .box bt cs')\/(∃ a z l l',s.hp i=some (.arr a z l)/\w = .arr a z l')):=by
 have h1:opX P Γ s o=some e:=by
  unfold Stp at h;rw[hop] at h;exact h.1
 rw[jG (by rw[hop]; simp [lR,cE,dB]),hop] at h1;simp only[opE,opY,iB,opV,fQ,fI,Op.bq,List.map_cons,List.map_nil,St.arg] at h1;unfold ox at h1;split at h1
 ·rename_i o' off bt cs c q heq;simp only[List.cons.injEq,Prod.mk.injEq] at heq;obtain⟨⟨e1,e2⟩,_⟩:=heq;have hids:(s.ev x).ids=[o']:=by rw[e1]; rfl
  rw[hids] at e2;simp only[List.map_cons,List.map_nil,List.cons.injEq,and_true] at e2;split at h1
  ·split at h1
   ·injection h1 with h1
    rw[← h1,hids];exact⟨_,_,rfl,by simp,.inl ⟨_,_,_,e2,rfl⟩⟩
   ·cases h1
  ·cases h1
 ·rename_i o' i off z a z' l c q heq;simp only[List.cons.injEq,Prod.mk.injEq] at heq;obtain⟨⟨e1,e2⟩,_⟩:=heq;have hids:(s.ev x).ids=[o']:=by rw[e1]; rfl
  rw[hids] at e2;simp only[List.map_cons,List.map_nil,List.cons.injEq,and_true] at e2;split at h1
  ·split at h1
   ·rename_i hz;injection h1 with h1
    rw[← h1,hids];exact⟨_,_,rfl,by simp,.inr ⟨_,_,_,_,by rw[e2,hz.1],rfl⟩⟩
   ·cases h1
  ·cases h1
 ·cases h1
theorem zT {x y:Oper} (h:H3 Γ x y=true):mvF Γ x=true/\cls Γ x = .R/\∃ a b t v,nP x.op=some a/\y.op = .store t (.tmp b) v/\∃ ta tb,(ta≠tb/\(500000<=ta↔500000<=tb))/\H0 Γ.bx a ta=true/\H0 Γ.bx b tb=true:=by
 unfold H3 at h;simp only[Bool.and_eq_true,decide_eq_true_eq] at h;obtain⟨⟨h1,h2⟩,h3⟩:=h;refine⟨h1,h2,?_⟩;split at h3
 ·rename_i a t b v e1 e2;obtain⟨e,he,h4⟩:=List.any_eq_true.1 h3;simp only[Bool.and_eq_true] at h4;obtain⟨e',he',h5⟩:=List.any_eq_true.1 h4.2;simp only[Bool.and_eq_true,Bool.not_eq_true'] at h5;obtain⟨h5,h6,h7⟩:=h5;have h5:=And.intro h5 h6;refine⟨a,b,t,v,e1,e2,e % 1000000,e' % 1000000,⟨?_,by
   rw[beq_iff_eq,Bool.eq_iff_iff] at h7;rw[← Nat.ble_eq,← Nat.ble_eq]; exact h7⟩,List.any_eq_true.2 ⟨e,he,by rw[h4.1,Nat.beq_refl]; rfl⟩,List.any_eq_true.2 ⟨e',he',by rw[h5.1,Nat.beq_refl]; rfl⟩⟩
  intro hx;rw[hx,Nat.beq_refl] at h5;exact absurd h5.2 (by simp)
 ·cases h3
theorem CI {s:St} {o:Oper} {e:Eff} {k t:Nat} (hn:∀ f a t,o.op ≠ .call ⟨.value f,a,t⟩) (hk:nP o.op=some k) (ht:H0 Γ.bx k t=true) (h:Stp P Γ s o e):∀ i∈(s.ev (.tmp k)).ids,btP s t i:=by
 unfold Stp at h;split at h
 ·rename_i f a t hop; exact absurd hop (hn f a t)
 ·exact h.2.2.2 k hk t ht
theorem xG {o:Oper} {k:Nat} (hk:nP o.op=some k):∀ f a t,o.op ≠ .call ⟨.value f,a,t⟩:=fun f a t e=>by rw[e] at hk; cases hk
theorem QC {s:St} {oi oj:Oper} {ei ej:Eff} (hap:oi.apart ops.toArray oj=true) (hap':oj.apart ops.toArray oi=true) (hl:H3 Γ oi oj=true)
  (hi:gy P Γ ops s oi ei) (hj:gy P Γ ops (s.app oi.dst ei) oj ej):gy P Γ ops s oj ej/\gy P Γ ops (s.app oj.dst ej) oi ei/\∀ x∈ei.wr,∀ y∈ej.wr,x.1≠y.1:=by
 obtain⟨h1,h2,h3⟩:=Oper.apart_spec hap;obtain⟨h1',h2',h3'⟩:=Oper.apart_spec hap';obtain⟨hm,hR,a,b,t,v,ha,hb,ta,tb,hne,hta,htb⟩:=zT hl;have hnw:ei.wr=[]:=by
  rcases hi with⟨_,h⟩ | ⟨_,rfl⟩
  ·exact xF hm h
  ·rfl
 have hh:s.hp=(s.app oi.dst ei).hp:=by show s.hp=eJ s.hp ei.wr; rw[hnw]; rfl
 have hj':gy P Γ ops s oj ej:=eP (ey h1).symm (ff (fun x hx=>(n8 fun k hk hxk=>h1 k hk (iO (by rw[← hxk]; exact hx))).symm) (fun _ x hx i hi=>by rw[← hh]) (fun _ _ k hk=>by rw[← hh]) (fun _=>hh)) hj;refine⟨hj',?_,fun x hx y hy=>by rw[hnw] at hx; cases hx⟩;refine eP (ey h1') (fun hst=>ff (fun x hx=>n8 fun k hk hxk=>h1' k hk (iO (by rw[← hxk]; exact hx))) (fun _ x hx i hi=>?_) (fun _ h=>absurd hR h) (fun h=>by rw[hR] at h; cases h) hst) hi;rcases hj' with⟨_,hs⟩ | ⟨_,rfl⟩
 ·obtain⟨o',w,hw,ho',_⟩:=OO hb hs;show eJ s.hp ej.wr i=s.hp i;refine jr _ _ _ fun y hy he=>?_;rw[hw] at hy;rw[List.mem_singleton.1 hy] at he;dsimp only at he;have k1:=CI (xG (by rw[hb]; rfl)) (by rw[hb]; rfl) htb hs o' ho';have hxa:x = .tmp a:=by
   have hx2:=hx;unfold nP at ha;split at ha <;> rename_i hop <;> first | (cases ha; done) | skip
   ·injection ha with ha
    subst ha;rw[hop] at hx2
    simpa [Op.bq] using hx2
   ·have:=(xx hm).1;rw[hop] at this; cases this
  subst hxa;have k2:=CI (xG ha) ha hta hst i hi;rcases k1 with⟨l1,cs,k1⟩ | k1 <;> rcases k2 with⟨l2,cs',k2⟩ | k2
  ·rw[he,k2] at k1;injection k1 with k1
   injection k1 with k1
   exact hne.1 k1
  ·have:=hne.2; omega
  ·have:=hne.2; omega
  ·exact hne.1 (by omega)
 ·rfl
theorem QD {s:St} {oi oj:Oper} {ei ej:Eff} (hap:oi.apart ops.toArray oj=true) (hap':oj.apart ops.toArray oi=true) (hl:H3 Γ oj oi=true)
  (hi:gy P Γ ops s oi ei) (hj:gy P Γ ops (s.app oi.dst ei) oj ej):gy P Γ ops s oj ej/\gy P Γ ops (s.app oj.dst ej) oi ei/\∀ x∈ei.wr,∀ y∈ej.wr,x.1≠y.1:=by
 obtain⟨h1,h2,h3⟩:=Oper.apart_spec hap;obtain⟨hm,hR,a,b,t,v,ha,hb,ta,tb,hne,hta,htb⟩:=zT hl;have hnw:ej.wr=[]:=by
  rcases hj with⟨_,h⟩ | ⟨_,rfl⟩
  ·exact xF hm h
  ·rfl
 have hev:∀ x∈Op.bq oj.op,(s.app oi.dst ei).ev x=s.ev x:=fun x hx=>n8 fun k hk hxk=>h1 k hk (iO (by rw[← hxk]; exact hx));have hj':gy P Γ ops s oj ej:=eP (ey h1).symm (fun hst=>ff (fun x hx=>(hev x hx).symm) (fun _ x hx i hxi=>?_) (fun _ h=>absurd hR h) (fun h=>by rw[hR] at h; cases h) hst) hj
 ·exact⟨hj',pZ hap' hnw hi,fun x hx y hy=>by rw[hnw] at hy; cases hy⟩
 ·rcases hi with⟨_,hs⟩ | ⟨_,rfl⟩
  ·obtain⟨o',w,hw,ho',hty⟩:=OO hb hs;have hxa:x = .tmp a:=by
    have hx2:=hx;unfold nP at ha;split at ha <;> rename_i hop <;> first | (cases ha; done) | skip
    ·injection ha with ha
     subst ha;rw[hop] at hx2
     simpa [Op.bq] using hx2
    ·have:=(xx hm).1;rw[hop] at this; cases this
   subst hxa;have k1:=CI (xG (by rw[hb]; rfl)) (by rw[hb]; rfl) htb hs o' ho';have k2:=CI (xG ha) ha hta hst i hxi;have hio:o'≠i:=fun he=>by
    rcases k1 with⟨l1,cs,k1⟩ | k1 <;> rcases k2 with⟨l2,cs',k2⟩ | k2
    rotate_left
    ·have:=hne.2; omega
    ·have:=hne.2; omega
    ·exact hne.1 (by omega)
    rw[← he] at k2;have:(s.app oi.dst ei).hp o'=some w:=by
     show eJ s.hp ei.wr o'=some w;rw[hw];show upd s.hp o' (some w) o'=some w;unfold upd; rw[if_pos rfl]
    rw[this] at k2;injection k2 with k2
    rcases hty with⟨bt,c1,c2,e1,e2⟩ | ⟨_,z,l,l',e1,e2⟩
    ·rw[k1] at e1;injection e1 with e1
     injection e1 with e1 _
     rw[e2] at k2;injection k2 with k2 _
     exact hne.1 (k2.symm.trans e1.symm)
    ·rw[e2] at k2; cases k2
   symm;show eJ s.hp ei.wr i=s.hp i;refine jr _ _ _ fun y hy he=>?_;rw[hw] at hy;rw[List.mem_singleton.1 hy] at he;exact hio he
  ·rfl
theorem xH {x y:Oper} (h:zL Γ x y=true):wv x.op=true/\mvF Γ y=true/\cls Γ y = .R/\∃ a i,nP y.op=some a/\H0 Γ.bx a (i+500000)=true/\nE Γ x i=true:=by
 unfold zL at h;simp only[Bool.and_eq_true,decide_eq_true_eq] at h;obtain⟨h0,⟨h1,h2⟩,h3⟩:=h;refine⟨h0,h1,h2,?_⟩;split at h3
 ·rename_i a e1;obtain⟨e,he,h4⟩:=List.any_eq_true.1 h3;simp only[Bool.and_eq_true,Nat.ble_eq] at h4;obtain⟨h4,h5,h6⟩:=h4;refine⟨a,e % 1000000-500000,e1,List.any_eq_true.2 ⟨e,he,?_⟩,h6⟩;rw[h4,show e % 1000000-500000+500000=e % 1000000 by omega,Nat.beq_refl]; rfl
 ·cases h3
theorem MX {o:Oper} {a:Nat} {x:Operand} (hm:mvF Γ o=true) (ha:nP o.op=some a) (hx:x∈Op.bq o.op):x = .tmp a:=by
 unfold nP at ha;split at ha <;> rename_i hop <;> first | (cases ha; done) | skip
 ·injection ha with ha
  subst ha;rw[hop] at hx
  simpa [Op.bq] using hx
 ·have:=(xx hm).1;rw[hop] at this; cases this
theorem Gb {s s0:St} {oc o:Oper} {ec e:Eff} {x:Operand} {a i0 i:Nat} (hwf:WF s) (hc:wv oc.op=true) (hm:mvF Γ o=true) (ha:nP o.op=some a) (hb:H0 Γ.bx a (i0+500000)=true) (hs:nE Γ oc i0=true)
  (hcall:gy P Γ ops s oc ec) (hst:Stp P Γ s0 o e) (hx:x∈Op.bq o.op) (hi:i∈(s0.ev x).ids) (hi2:i∈(s.ev x).ids):(s.app oc.dst ec).hp i=s.hp i:=by
 have hxa:=MX hm ha hx;subst hxa;have hib:i=i0:=by
  rcases CI (xG ha) ha hb hst i hi with⟨h,_⟩ | h <;> omega
 subst hib;refine sy i ec.wr s.hp fun y hy he=>?_;rcases hcall with⟨_,h⟩ | ⟨_,rfl⟩
 ·rcases EO hs ((p3 hc).1 h) y hy he with h1 | h1
  ·rw[he] at h1; exact absurd h1 (hwf.ev _ i hi2)
  ·rw[← he]; exact h1
 ·cases hy
theorem MY {s:St} {oi oj:Oper} {ei ej:Eff} (hwf:WF s) (hap:oi.apart ops.toArray oj=true) (hap':oj.apart ops.toArray oi=true) (hl:zL Γ oi oj=true)
  (hi:gy P Γ ops s oi ei) (hj:gy P Γ ops (s.app oi.dst ei) oj ej):gy P Γ ops s oj ej/\gy P Γ ops (s.app oj.dst ej) oi ei/\∀ x∈ei.wr,∀ y∈ej.wr,x.1≠y.1:=by
 obtain⟨h1,h2,h3⟩:=Oper.apart_spec hap;obtain⟨hc,hm,hR,a,i0,ha,hb,hs⟩:=xH hl;have hnw:ej.wr=[]:=by
  rcases hj with⟨_,h⟩ | ⟨_,rfl⟩
  ·exact xF hm h
  ·rfl
 have hev:∀ x∈Op.bq oj.op,(s.app oi.dst ei).ev x=s.ev x:=fun x hx=>n8 fun k hk hxk=>h1 k hk (iO (by rw[← hxk]; exact hx));have hj':gy P Γ ops s oj ej:=eP (ey h1).symm (fun hst=>ff (fun x hx=>(hev x hx).symm) (fun _ x hx i hxi=>(Gb hwf hc hm ha hb hs hi hst hx hxi (by rw[← hev x hx]; exact hxi)).symm) (fun _ h=>absurd hR h) (fun h=>by rw[hR] at h; cases h) hst) hj;exact⟨hj',pZ hap' hnw hi,fun x hx y hy=>by rw[hnw] at hy; cases hy⟩
theorem MZ {s:St} {oi oj:Oper} {ei ej:Eff} (hwf:WF s) (hap:oi.apart ops.toArray oj=true) (hap':oj.apart ops.toArray oi=true) (hl:zL Γ oj oi=true)
  (hi:gy P Γ ops s oi ei) (hj:gy P Γ ops (s.app oi.dst ei) oj ej):gy P Γ ops s oj ej/\gy P Γ ops (s.app oj.dst ej) oi ei/\∀ x∈ei.wr,∀ y∈ej.wr,x.1≠y.1:=by
 obtain⟨h1,h2,h3⟩:=Oper.apart_spec hap;obtain⟨h1',h2',h3'⟩:=Oper.apart_spec hap';obtain⟨hc,hm,hR,a,i0,ha,hb,hs⟩:=xH hl;have hnw:ei.wr=[]:=by
  rcases hi with⟨_,h⟩ | ⟨_,rfl⟩
  ·exact xF hm h
  ·rfl
 have hh:s.hp=(s.app oi.dst ei).hp:=by show s.hp=eJ s.hp ei.wr; rw[hnw]; rfl
 have hj':gy P Γ ops s oj ej:=eP (ey h1).symm (ff (fun x hx=>(n8 fun k hk hxk=>h1 k hk (iO (by rw[← hxk]; exact hx))).symm) (fun _ x hx i hi=>by rw[← hh]) (fun _ _ k hk=>by rw[← hh]) (fun _=>hh)) hj;refine⟨hj',?_,fun x hx y hy=>by rw[hnw] at hx; cases hx⟩;exact eP (ey h1') (fun hst=>ff (fun x hx=>n8 fun k hk hxk=>h1' k hk (iO (by rw[← hxk]; exact hx))) (fun _ x hx i hxi=>Gb hwf hc hm ha hb hs hj' hst hx hxi hxi) (fun _ h=>absurd hR h) (fun h=>by rw[hR] at h; cases h) hst) hi
theorem JR {s:St} {oi oj:Oper} {ei ej:Eff} (hd:∀ d,oi.dst=some d->oj.dst≠some d) (hw:∀ x∈ei.wr,∀ y∈ej.wr,x.1≠y.1):(s.app oi.dst ei).app oj.dst ej=(s.app oj.dst ej).app oi.dst ei:=by
 have h1:((s.app oi.dst ei).app oj.dst ej).tm=((s.app oj.dst ej).app oi.dst ei).tm:=by
  funext t
  simp only[EK];by_cases h1:oi.dst=some t
  ·rw[if_pos h1,if_neg (hd t h1)];simp [h1]
  ·rw[if_neg h1];simp [h1]
 have h2:((s.app oi.dst ei).app oj.dst ej).hp=((s.app oj.dst ej).app oi.dst ei).hp:=zN ei.wr ej.wr s.hp hw;cases hx:(s.app oi.dst ei).app oj.dst ej;cases hy:(s.app oj.dst ej).app oi.dst ei;rw[hx,hy] at h1 h2;dsimp only at h1 h2;rw[h1,h2]
theorem JS {s:St} {oi oj:Oper} {ei ej:Eff} (hap:oi.apart ops.toArray oj=true) (hc:oB Γ oi oj=true) (hbi:∀ d:Nat,oi.dst=some d->d<10000) (hbj:∀ d:Nat,oj.dst=some d->d<10000)
  (hi:gy P Γ ops s oi ei) (hj:gy P Γ ops s oj ej):∀ x∈ei.wr,∀ y∈ej.wr,x.1≠y.1:=by
 intro x hx y hy he;have hcases:ei.wr=[]\/ej.wr=[]\/(cls Γ oi = .A/\cls Γ oj = .A):=by
  have hc:=ua hc;have hw:=(qA hi).1;have hw':=(qA hj).1;cases hci:cls Γ oi <;> cases hcj:cls Γ oj <;> rw[hci,hcj] at hc <;> first | (cases hc; done) | (exact .inl (hw (.inl hci))) | (exact .inl (hw (.inr hci))) | (exact .inr (.inl (hw' (.inl hcj)))) | (exact .inr (.inl (hw' (.inr hcj)))) | (exact .inr (.inr ⟨rfl,rfl⟩))
 rcases hcases with h | h | ⟨h,h'⟩
 ·rw[h] at hx; cases hx
 ·rw[h] at hy; cases hy
 ·obtain⟨_,d,m,hd,hm⟩:=(qA hi).2.1 h x hx;obtain⟨_,d',m',hd',hm'⟩:=(qA hj).2.1 h' y hy;have b1:=hbi d hd;have b2:=hbj d' hd';have:d=d':=by omega
  subst this;exact (Oper.apart_spec hap).2.1 d hd hd'
def Bh (ops:Array Oper) (j:Nat):Nat :=
 match ops[j]? with
 | some o=>o.after.toList.foldl (fun m e=>cond (Region.binds .any e) (m ||| 2 ^ e.on) m) 0
 | none=>0
def xI (ops:Array Oper):Nat->Nat->Nat
 | 0,m=>m
 | i+1,m=>cond (m.testBit i) (xI ops i (m ||| Bh ops i)) (xI ops i m)
def waits (ops:Array Oper) (_ j i:Nat):Bool:=(xI ops j (Bh ops j)).testBit i
def Bi (ops:Array Oper) (listed:Array Bool):Prop := ∀ (j:Nat) o,ops[j]?=some o->listed.getD j false=true->∀ e∈o.after,Region.binds .any e=true->listed.getD e.on false=true
theorem zU:∀ (l:List Edge) (m0 i:Nat),(l.foldl (fun m e=>cond (Region.binds .any e) (m ||| 2 ^ e.on) m) m0).testBit i=true->m0.testBit i=true\/∃ e∈l,Region.binds .any e=true/\e.on=i
 | [],m0,i,h=>.inl h
 | e::l,m0,i,h=>by
  rw[List.foldl_cons] at h;rcases zU l _ i h with h1 | ⟨e',he',h1⟩
  ·cases hb:Region.binds .any e with
   | true =>
    rw[hb,cond_true,Nat.testBit_or,Bool.or_eq_true] at h1;rcases h1 with h1 | h1
    ·exact .inl h1
    ·rw[Nat.testBit_two_pow,decide_eq_true_eq] at h1;exact .inr ⟨e,List.mem_cons_self,hb,h1⟩
   | false =>
    rw[hb,cond_false] at h1;exact .inl h1
  ·exact .inr ⟨e',List.mem_cons_of_mem _ he',h1⟩
theorem uc {ops:Array Oper} {listed:Array Bool} {j i:Nat} (hj:∀ o,ops[j]?=some o->∀ e∈o.after,Region.binds .any e=true->listed.getD e.on false=true) (h:(Bh ops j).testBit i=true):listed.getD i false=true:=by
 unfold Bh at h;split at h
 ·rename_i o ho;rcases zU _ _ _ h with h1 | ⟨e,he,hb,rfl⟩
  ·rw[Nat.zero_testBit] at h1; cases h1
  ·exact hj o ho e (Array.mem_toList_iff.1 he) hb
 ·rw[Nat.zero_testBit] at h; cases h
theorem qC {ops:Array Oper} {listed:Array Bool} (hcl:Bi ops listed):∀ (k m:Nat),(∀ i,m.testBit i=true->listed.getD i false=true)->∀ i,(xI ops k m).testBit i=true->listed.getD i false=true
 | 0,m,hm,i,h=>hm i h
 | k+1,m,hm,i,h=>by
  unfold xI at h;cases hb:m.testBit k with
  | true =>
   rw[hb,cond_true] at h;refine qC hcl k _ (fun i hi=>?_) i h;rw[Nat.testBit_or,Bool.or_eq_true] at hi;rcases hi with hi | hi
   ·exact hm i hi
   ·exact uc (fun o ho=>hcl k o ho (hm k hb)) hi
  | false =>
   rw[hb,cond_false] at h;exact qC hcl k m hm i h
theorem Bj {ops:Array Oper} {listed:Array Bool} (hcl:Bi ops listed):∀ (f j i:Nat),(∀ o,ops[j]?=some o->∀ e∈o.after,Region.binds .any e=true->listed.getD e.on false=true)->waits ops f j i=true->listed.getD i false=true :=
 fun f j i hj h=>qC hcl j _ (fun i hi=>uc hj hi) i h
def JT (P:Program) (Γ:Opt) (ops:List Oper) (K:St->Prop):Nat->Array Bool->St->Prop
 | 0,listed,s=>Region.ready .any ops.toArray listed=[]/\K s
 | f+1,listed,s=>(Region.ready .any ops.toArray listed=[]->K s) /\
  ∀ i∈Region.ready .any ops.toArray listed,∃ o e,ops[i]?=some o/\gy P Γ ops s o e/\e.cond/\JT P Γ ops K f (listed.setIfInBounds i true) (s.app o.dst e)
section
variable {w0:World} {χ0:Col} {T0:Ctx} {n:Nat} {K:St->Prop}
def zV (w0:World) (χ0:Col) (T0:Ctx) (n:Nat) (s:St):Prop := ∃ a w,aX w0 χ0 T0 n s a w
theorem Oper.H9 {o:Oper} {a:Act} {w:World} {K:Act->World->Prop} (h:o.wp P a w K (fun _ _ _=>False)):∃ a' w',K a' w':=by
 unfold Oper.wp at h;generalize (execOp a.eval o).run P w=r at h;cases r with
 | ok nx w' =>
  cases nx <;> simp only[Oper.upon] at h
  case value v=>exact⟨_,_,h⟩
  case skip=>exact⟨_,_,h⟩
  case defer d=>exact⟨_,_,h⟩
  case enter f args =>
   obtain⟨e,w'',fr,hR,_⟩:=h [];cases e with
   | returned v=>exact⟨_,_,hR⟩
   | panicked c=>exact hR.elim
   | outgrown=>obtain⟨_,_,h⟩:=hR; exact h.elim
  case row r args =>
   obtain⟨v,w'',hR,_⟩:=h default [];exact⟨_,_,hR⟩
 | halt x w'=>cases x <;> simp only[Oper.upon] at h
theorem zW {o:Oper} {e:Eff} (hdn:∀ o∈ops,∀ k,o.dst=some k->k<n) (ho:o∈ops) (hl:zV w0 χ0 T0 n s) (h:gy P Γ ops s o e) (hc:e.cond):zV w0 χ0 T0 n (s.app o.dst e):=by
 obtain⟨a,w,ha⟩:=hl;have:=tZ (Q:=fun _ _ _=>False) hdn ho ha h hc (K:=fun a' w'=>aX w0 χ0 T0 n (s.app o.dst e) a' w') (fun _ _ h=>h);split at this
 ·rcases this with h | ⟨_,_,_,h⟩
  ·exact Oper.H9 h
  ·exact h.elim
 ·exact⟨_,_,this⟩
theorem qD (hl:zV w0 χ0 T0 n s):WF s:=by obtain⟨a,w,_,G,r⟩:=hl; exact H4 r
theorem EP (hdn:∀ o∈ops,∀ k,o.dst=some k->k<n) (hb:∀ o∈ops,∀ k:Nat,o.dst=some k->k<10000) {i:Nat} {oi:Oper} {f0:Nat} (hi:ops[i]?=some oi) :
  ∀ (fuel:Nat) (listed:Array Bool) (s:St) (ei:Eff),zV w0 χ0 T0 n s->Bi ops.toArray listed->(∀ j oj,ops[j]?=some oj->j≠i->listed.getD j true=false->waits ops.toArray f0 j i=true\/(oi.apart ops.toArray oj=true/\Bf Γ oi oj=true)) ->
   i∈Region.ready .any ops.toArray listed->gy P Γ ops s oi ei->ei.cond->JT P Γ ops K fuel (listed.setIfInBounds i true) (s.app oi.dst ei)->JT P Γ ops K (fuel+1) listed s:=by
 intro fuel;induction fuel with
 | zero =>
  intro listed s ei hl hcl hfree hr he hc H;refine⟨fun h=>(by rw[h] at hr; cases hr),fun j hj=>?_⟩;by_cases hji:j=i
  ·subst hji; exact⟨oi,ei,hi,he,hc,H⟩
  ·have:=ready_mono hj hji;rw[H.1] at this;cases this
 | succ fuel ih =>
  intro listed s ei hl hcl hfree hr he hc H;refine⟨fun h=>(by rw[h] at hr; cases hr),fun j hj=>?_⟩;by_cases hji:j=i
  ·subst hji; exact⟨oi,ei,hi,he,hc,H⟩
  ·obtain⟨oj,ej,hoj,hej,hcj,hjK⟩:=H.2 j (ready_mono hj hji);obtain⟨hjun,oj',hoj',hall⟩:=mem_ready.1 hj;have hoj'':ops[j]?=some oj':=by simpa using hoj'
   rw[hoj] at hoj'';injection hoj'' with hoj''
   subst hoj'';have hiun:=(mem_ready.1 hr).1;have hcm:oi.apart ops.toArray oj=true/\Bf Γ oi oj=true:=by
    rcases hfree j oj hoj hji hjun with h | h
    ·have:=Bj hcl f0 j i (fun o ho e he hb=>by rw[hoj'] at ho; injection ho with ho; subst ho; exact hall e he hb) h;rcases Nat.lt_or_ge i listed.size with h' | h'
     ·simp [h'] at this hiun; rw[hiun] at this; cases this
     ·simp [Array.getElem?_eq_none h'] at this
    ·exact h
   have hbi:=hb oi (List.mem_of_getElem? hi);have hbj:=hb oj (List.mem_of_getElem? hoj);have hap':oj.apart ops.toArray oi=true:=by
    obtain⟨a1,a2,a3⟩:=Oper.apart_spec hcm.1;unfold Oper.apart;rw[Bool.and_eq_true];constructor
    ·split
     ·rename_i d hd;rw[Bool.and_eq_true];exact⟨by simpa using a3 d hd,by simp only[bne_iff_ne]; exact fun h=>a2 d h hd⟩
     ·rfl
    ·split
     ·rename_i d hd
      simpa using a1 d hd
     ·rfl
   have three:gy P Γ ops s oj ej/\gy P Γ ops (s.app oj.dst ej) oi ei/\∀ x∈ei.wr,∀ y∈ej.wr,x.1≠y.1:=by
    have hcc:=hcm.2;unfold Bf at hcc;simp only[Bool.or_eq_true,Bool.and_eq_true] at hcc;rcases hcc with (hc0 | (hca | hca) | hca | hca | hca) | (hca | hca)
    ·have hej':gy P Γ ops s oj ej:=(zO (qD hl) hcm.1 hc0 hbi hbj he).1 hej;refine⟨hej',?_,JS hcm.1 hc0 hbi hbj he hej'⟩;by_cases hps:xv oj.op=true/\cls Γ oi = .P
     ·have hc2:=ua hc0;rw[hps.2] at hc2;refine pZ hap' ((qA hej').1 ?_) he;cases hcj2:cls Γ oj <;> rw[hcj2] at hc2 <;> first | (cases hc2; done) | exact .inl rfl | exact .inr rfl
     ·have hcm':oB Γ oj oi=true:=by
       unfold oB;rw[EH,ua hc0,Bool.true_and];cases h1:xv oj.op with
       | false=>rfl
       | true =>
        have:cls Γ oi ≠ .P:=fun h2=>hps ⟨h1,h2⟩;rw[decide_eq_false this]; rfl
      exact (zO (qD hl) hap' hcm' hbj hbi hej').2 (JM hc0) he
    ·exact QC hcm.1 hap' hca he hej
    ·exact QD hcm.1 hap' hca he hej
    ·exact EN (qD hl) hcm.1 hap' hca.1 hca.2 hbi hbj he hej
    ·exact H7 (qD hl) hcm.1 hap' hca.1 hca.2.1 hca.2.2 hbi hbj he hej
    ·exact H8 (qD hl) hcm.1 hap' hca.1 hca.2.1 hca.2.2 hbi hbj he hej
    ·exact MY (qD hl) hcm.1 hap' hca he hej
    ·exact MZ (qD hl) hcm.1 hap' hca he hej
   obtain⟨hej',hei',hwa⟩:=three;have hl':zV w0 χ0 T0 n (s.app oj.dst ej):=zW hdn (List.mem_of_getElem? hoj) hl hej' hcj;refine⟨oj,ej,hoj,hej',hcj,ih (listed.setIfInBounds j true) _ ei hl' ?_ ?_ (ready_mono hr (Ne.symm hji)) hei' hc ?_⟩
   ·intro m o ho hm e he hbd;by_cases hmj:m=j
    ·subst hmj;rw[hoj'] at ho;injection ho with ho
     subst ho;exact getD_set_true (hall e he hbd)
    ·rw[getD_set_ne false (Ne.symm hmj)] at hm;exact getD_set_true (hcl m o ho hm e he hbd)
   ·intro k ok hk hki hun;refine hfree k ok hk hki ?_;by_cases hjk:j=k
    ·subst hjk; exact hjun
    ·rw[getD_set_ne true hjk] at hun; exact hun
   ·rw[Array.setIfInBounds_comm _ _ hji];have hcom:=JR (s:=s) (ei:=ei) (ej:=ej) (Oper.apart_spec hcm.1).2.1 hwa;rw[← hcom]; exact hjK
end
end
end Go.Lad
namespace Go.Lad
open Go.RowKit
def xJ (Γ:Opt) (ops:List Oper):Bool :=
 (Region.noSelect ops.toArray && ops.all fun o=>!inL Γ.vs o.dst) && (List.range ops.length).all fun k=>match ops[k]? with
  | some o=>o.after.all (fun e=>!Region.binds .any e || decide (e.on<k)) && (List.range ops.length).all fun j=>decide (j<=k) || match ops[j]? with
   | some oj=>(o.apart ops.toArray oj && Bf Γ o oj) || waits ops.toArray ops.length j k
   | none=>true
  | none=>true
section
variable {P:Program} {Γ:Opt} {ops:List Oper} {s:St} {w0:World} {χ0:Col} {T0:Ctx} {n:Nat} {K:St->Prop} {Q:Exit->Act->World->Prop}
def upto (m k:Nat):Array Bool:=(List.replicate k true++List.replicate (m-k) false).toArray
theorem p4 {m k j:Nat} (hk:k<=m) (d:Bool):(upto m k).getD j d=if j<k then true else if j<m then false else d:=by
 unfold upto;simp only[Array.getD_eq_getD_getElem?,List.getElem?_toArray,List.getElem?_append,List.length_replicate,List.getElem?_replicate];split
 ·rfl
 ·split
  ·rw[if_pos (by omega)]; rfl
  ·rw[if_neg (by omega)]; rfl
theorem JU {m k:Nat} (hk:k<m):(upto m k).setIfInBounds k true=upto m (k+1):=by
 apply Array.ext_getElem?;intro j;unfold upto;rw[Array.getElem?_setIfInBounds];simp only[List.getElem?_toArray,List.getElem?_append,List.length_replicate,List.getElem?_replicate,List.size_toArray,List.length_append];by_cases h:k=j
 ·subst h; simp; omega
 ·rw[if_neg h];by_cases h1:j<k
  ·simp [h1,show j<k+1 by omega]
  ·by_cases h2:j-k<m-k
   ·simp [h1,h2,show ¬ j<k+1 by omega,show j-(k+1)<m-(k+1) by omega]
   ·simp [h1,h2,show ¬ j<k+1 by omega,show ¬ j-(k+1)<m-(k+1) by omega]
theorem xK (hdn:∀ o∈ops,∀ k,o.dst=some k->k<n) (hb:∀ o∈ops,∀ k:Nat,o.dst=some k->k<10000) (hok:xJ Γ ops=true) :
  ∀ (l:List Oper) (k:Nat) (s:St),l=ops.drop k->k<=ops.length->zV w0 χ0 T0 n s->H2 P Γ ops l s K->JT P Γ ops K l.length (upto ops.length k) s
 | [],k,s,hl,hk,hlv,h=>by
  have hlen:k=ops.length:=by
   have:=congrArg List.length hl;simp at this; omega
  refine⟨?_,h⟩;rw[List.eq_nil_iff_forall_not_mem];intro j hj;obtain⟨h1,o,ho,_⟩:=mem_ready.1 hj;have hjl:j<ops.length:=by
   have:=(Array.getElem?_eq_some_iff.1 ho).1
   simpa using this
  rw[p4 hk,if_pos (by omega)] at h1;cases h1
 | o::rest,k,s,hl,hk,hlv,h=>by
  have hklt:k<ops.length:=by
   have:=congrArg List.length hl;simp at this; omega
  have ho:ops[k]?=some o:=by
   have:=congrArg (fun l=>l[0]?) hl
   simpa using this.symm
  have hrest:rest=ops.drop (k+1):=by
   have:=congrArg List.tail hl
   simpa using this
  unfold xJ at hok;rw[Bool.and_eq_true] at hok;have hokk:=List.all_eq_true.1 hok.2 k (List.mem_range.2 hklt);simp only[ho,Bool.and_eq_true] at hokk;obtain⟨hdeps,hfree⟩:=hokk;obtain⟨s',e,hrev,he,hc,hK⟩:=h;have hs':s'=s:=by
   rcases hrev with h | ⟨h,_⟩
   ·exact h
   ·have:=List.all_eq_true.1 (Bool.and_eq_true _ _ ▸ hok.1).2 o (List.mem_of_getElem? ho);rw[h] at this; cases this
  rw[hs'] at he hK;have hdep:∀ e∈o.after,Region.binds .any e=true->e.on<k:=fun e he hbd=>by
   have:=Array.all_eq_true_iff_forall_mem.1 hdeps e he
   simpa [hbd] using this
  refine EP (f0:=ops.length) hdn hb ho rest.length _ s e hlv ?_ (fun j oj hoj hji hun=>?_) ?_ he hc ?_
  ·intro j oj hoj hj e' he' hbd';have hjl:j<ops.length:=by
    have:=(Array.getElem?_eq_some_iff.1 hoj).1
    simpa using this
   have hjk:j<k:=by
    rw[p4 hk] at hj;by_cases h:j<k
    ·exact h
    ·rw[if_neg h,if_pos hjl] at hj; cases hj
   have hokj:=List.all_eq_true.1 hok.2 j (List.mem_range.2 hjl);have hoj':ops[j]?=some oj:=by simpa using hoj
   simp only[hoj',Bool.and_eq_true] at hokj;have:=Array.all_eq_true_iff_forall_mem.1 hokj.1 e' he';simp [hbd'] at this;rw[p4 hk,if_pos (by omega)]
  ·have hjl:=(List.getElem?_eq_some_iff.1 hoj).1;have hjk:k<j:=by
    rw[p4 hk] at hun;by_cases h:j<k
    ·rw[if_pos h] at hun; cases hun
    ·omega
   have:=List.all_eq_true.1 hfree j (List.mem_range.2 hjl);simp only[hoj,Bool.or_eq_true,Bool.and_eq_true,decide_eq_true_eq] at this;rcases this with h | h | h
   ·omega
   ·exact .inr h
   ·exact .inl h
  ·refine mem_ready.2 ⟨?_,o,by simpa using ho,fun e' he' hbd=>?_⟩
   ·rw[p4 hk,if_neg (by omega),if_pos hklt]
   ·rw[p4 hk,if_pos (hdep e' he' hbd)]
  ·rw[JU hklt];exact xK hdn hb (by unfold xJ; rw[Bool.and_eq_true]; exact hok) rest (k+1) _ hrest (by omega) (zW hdn (List.mem_of_getElem? ho) hlv he hc) hK
theorem ue (hdn:∀ o∈ops,∀ k,o.dst=some k->k<n) (hQ:∀ s a w,K s->aX w0 χ0 T0 n s a w->Q .normal a w) :
  ∀ (fuel:Nat) (listed:Array Bool) (s:St) (a:Act) (w:World),aX w0 χ0 T0 n s a w->JT P Γ ops K fuel listed s->wpAny P .any ops.toArray Q fuel listed a w
 | 0,listed,s,a,w,ha,h=>⟨h.1,hQ s a w h.2 ha⟩
 | fuel+1,listed,s,a,w,ha,h=>by
  refine⟨fun h0=>hQ s a w (h.1 h0) ha,fun i hi=>?_⟩;obtain⟨o,e,ho,he,hc,hK⟩:=h.2 i hi;unfold wpOp;have ho':ops.toArray[i]?=some o:=by simpa using ho
  simp only[ho'];exact tZ hdn (List.mem_of_getElem? ho) ha he hc fun a' w' ha'=>ue hdn hQ fuel _ _ a' w' ha' hK
theorem aX.drew {a:Act} {w:World} (h:aX w0 χ0 T0 n s a w):aX w0 χ0 T0 n s a w.drew:=by
 obtain⟨h1,G,r⟩:=h;exact⟨h1,G,r.drew⟩
theorem Ia {id:Nat} {draw:Bool} {a:Act} {w:World} (hχ:∀ b,χ0 b<=1) (hm:P.follows .mixedOrders=true) (hdn:∀ o∈ops,∀ k,o.dst=some k->k<n) (hb:∀ o∈ops,∀ k:Nat,o.dst=some k->k<10000)
  (hQ:∀ s a w,K s->aX w0 χ0 T0 n s a w->Q .normal a w) (ha:aX w0 χ0 T0 n s a w) (hok:draw=true->xJ Γ ops=true) (h:qz P Γ ops ops s K):(Code.region id ops.toArray draw).wp P Q a w:=by
 have hl:=mY _ _ h;cases draw with
 | false=>exact wp_region_list (by simpa using JL hχ hdn hQ ops s a w (fun _ h=>h) ha hl)
 | true =>
  refine wp_region_any hm ?_;have hany:=xK hdn hb (hok rfl) ops 0 s (by simp) (by omega) ⟨a,w,ha⟩ hl;have:upto ops.length 0=Array.replicate ops.toArray.size false:=by
   apply Array.ext';simp [upto]
  rw[this] at hany;exact ue hdn hQ _ _ s a _ ha.drew (by simpa using hany)
end
end Go.Lad
namespace Go.Lad
open Go.RowKit
inductive AEx where
 | normal
 | exit (id:Nat)
 | ret
def gE:Code->List Nat
 | .region _ ops _=>ops.toList.filterMap (·.dst)
 | .seq a b=>gE a++gE b
 | .cond _ a b=>gE a++gE b
 | .block _ b=>gE b
 | _=>[]
def iV:Code->Bool
 | .skip=>true
 | .region _ ops draw=>!draw && ops.toList.all (fun o=>match o.op with | .defer _=>false | _=>true)
 | .seq a b=>iV a && iV b
 | .cond _ a b=>iV a && iV b
 | .block _ b=>iV b
 | .exit _=>true
 | .ret=>true
 | _=>false
def kK (ts:List Nat) (a a':Act):Prop := ∀ t,t∉ts->a'.tmps.getD t undef=a.tmps.getD t undef
theorem kK.refl (ts:List Nat) (a:Act):kK ts a a:=fun _ _=>rfl
theorem kK.put {ts:List Nat} {a b c:Act} {d:Option Nat} {v:Value} (h:kK ts a b) (hc:c.tmps=(b.put d v).tmps) (hd:∀ k,d=some k->k∈ts):kK ts a c:=fun t ht=>by
 rw[hc,← h t ht];cases d with
 | none=>rfl
 | some k =>
  have:k≠t:=fun e=>ht (e ▸ hd k rfl);simp only[Act.put,Array.getD_eq_getD_getElem?,Array.getElem?_setIfInBounds,if_neg this]
section
variable {P:Program} {Γ:Opt} {w0:World} {χ0:Col} {T0:Ctx} {s:St} {a:Act} {w:World} {G:Gh} {n m l0:Nat}
theorem ER {o:Oper} {next:Act->World->Prop} {Q:Exit->Act->World->Prop} (hd:∀ c,o.op ≠ .defer c) (h:o.wp P a w next fun _ _ _=>False) :
  o.wpIn (Fence.wide.inRound l0) m P a w (fun a' w'=>next a' w'/\∃ v,a'.tmps=(a.put o.dst v).tmps) Q:=by
 refine⟨fun _ _=>trivial,?_⟩;unfold Oper.wp at h;show o.uponIn _ _ _ _ _ _ ((o.semAt (some l0) a.eval).run P w);rw[Oper.semAt_some l0 a.eval o hd];cases hr:(execOp a.eval o).run P w with
 | halt e w' =>
  rw[hr] at h;cases e with
  | panic v=>exact h.elim
  | _=>exact h.elim
 | ok x w' =>
  rw[hr] at h;cases x with
  | value v=>exact⟨h,v,rfl⟩
  | skip=>exact⟨h,undef,rfl⟩
  | defer d=>exact⟨h,undef,by cases o.dst <;> rfl⟩
  | enter f args =>
   refine⟨fun hd=>by simp [Fence.wide] at hd,?_⟩;have h2:=CallsIn.inRound (n:=m-1) l0 (callsIn_wide.2 h);refine h2.mono fun e w'' hq=>?_;cases e with
   | returned v=>exact⟨hq,v,rfl⟩
   | panicked c=>exact hq.elim
   | outgrown=>obtain⟨_,_,hq⟩:=hq; exact hq.elim
  | row r args =>
   refine⟨fun hd=>by simp [Fence.wide] at hd,fun c cs _=>?_⟩;obtain⟨v,w'',hv,hs⟩:=h c cs;exact⟨v,w'',⟨hv,v,rfl⟩,stepsIn_wide.2 hs⟩
  | _=>exact h.elim
theorem Gc {ops:List Oper} {Q:Exit->Act->World->Prop} {ts:List Nat} {a0:Act} (hχ:∀ b,χ0 b<=1) (hdn:∀ o∈ops,∀ k,o.dst=some k->k<n) (hnd:∀ o∈ops,∀ c,o.op ≠ .defer c) (hts:∀ o∈ops,∀ k,o.dst=some k->k∈ts) {K:St->Prop}
  (hQ:∀ s a w,K s->aX w0 χ0 T0 n s a w->kK ts a0 a->Q .normal a w) :
  ∀ (l:List Oper) (s:St) (a:Act) (w:World),(∀ o∈l,o∈ops)->aX w0 χ0 T0 n s a w->kK ts a0 a->H2 P Γ ops l s K->wpListIn (Fence.wide.inRound l0) m P ops.toArray Q l a w
 | [],s,a,w,_,ha,hs,h=>hQ s a w h ha hs
 | o::rest,s,a,w,hl,ha,hs,h=>by
  obtain⟨s',e,h0,h1,h2,h3⟩:=h;have ho:=hl o List.mem_cons_self;unfold wpListIn;have key:=tZ (Q:=fun _ _ _=>False) (K:=fun a' w'=>aX w0 χ0 T0 n (s'.app o.dst e) a' w') hdn ho (JK hχ h0 ha) h1 h2 fun _ _ h=>h;have go:∀ a' w',aX w0 χ0 T0 n (s'.app o.dst e) a' w'->(∃ v,a'.tmps=(a.put o.dst v).tmps)->wpListIn (Fence.wide.inRound l0) m P ops.toArray Q rest a' w':=fun a' w' h4 ⟨v,hv⟩ =>
   Gc hχ hdn hnd hts hQ rest _ a' w' (fun o ho=>hl o (List.mem_cons_of_mem _ ho)) h4 (hs.put hv (hts o ho)) h3
  split
  ·rename_i hw;rw[if_pos hw] at key;rcases key with key | ⟨_,_,_,key⟩
   ·exact Oper.wpIn_mono (fun a' w' h4=>go a' w' h4.1 h4.2) (ER (hnd o ho) key)
   ·exact key.elim
  ·rename_i hw;rw[if_neg hw] at key;exact⟨fun _ _=>trivial,go _ _ key ⟨undef,rfl⟩⟩
end
section
variable {w0:World} {χ0:Col} {T0:Ctx} {s:St} {a:Act} {w:World} {G:Gh}
def baseχ (G:Gh):Col:=fun b=>if G.χ b<=1 then G.χ b else 0
def zX (T0:Ctx) (G:Gh):Ctx:=⟨fun b=>2<=G.χ b,G.bl,G.hv,T0.lo⟩
theorem baseχ_le (G:Gh) (b:Nat):baseχ G b<=1:=by unfold baseχ; split <;> omega
theorem bP.base (r:bP w0 χ0 T0 s a w G):bP w (baseχ G) (zX T0 G) s a w G:=by
 refine⟨rfl,rfl,rfl,Nat.le_refl _,fun _ _ _=>rfl,fun b _ hT=>?_,fun b hb=>.inl hb,fun o _=>⟨rfl,rfl⟩,r.norm,r.defers,r.tms,r.gM,fun g h=>?_,fun g h h2=>?_⟩
 ·have hT:¬ 2<=G.χ b:=hT;exact (if_pos (by omega)).symm
 ·obtain⟨h1,h2⟩:=r.Ca g h;exact⟨(if_pos (by omega)).trans h1,h2⟩
 ·have h2:2<=G.χ g:=h2;have:=(r.Ca g h).1;omega
def OP (G:Gh) (w:World) (G':Gh) (w':World):Prop:=w.heap.size<=w'.heap.size/\∀ b,b<w.heap.size->G.χ b=1->G'.χ b=1/\w'.heap[b]?=w.heap[b]?
theorem bP.QE {s':St} {a':Act} {w':World} {G':Gh} (r:bP w (baseχ G) (zX T0 G) s' a' w' G'):OP G w G' w' :=
 ⟨r.size,fun b hb h1=>by
  have hT:¬ (zX T0 G).T b:=fun h=>by have h:2<=G.χ b:=h; omega
  exact⟨(r.col b hb hT).trans ((if_pos (by omega)).trans h1),r.old b hb hT⟩⟩
theorem bP.back {s' s2:St} {a' b':Act} {w':World} {G':Gh} (hχ:∀ b,χ0 b<=1) (r:bP w0 χ0 T0 s a w G) (r':bP w (baseχ G) (zX T0 G) s' a' w' G') (hp:s2.hp=s'.hp) (ht:∀ t,SRd G' s2.hp w' (s2.tm t) (b'.tmps.getD t undef)) (hd:oo T0.lo G'.χ w' b'.defers):bP w0 χ0 T0 s2 b' w' G':=by
 have hT:∀ b,b<w0.heap.size -> ¬ T0.T b -> ¬ (zX T0 G).T b:=fun b hb h1 h2=>by
  have h2:2<=G.χ b:=h2;have:=hχ b;rw[← r.col b hb h1] at this;omega
 refine⟨r'.os.trans r.os,r'.tape.trans r.tape,r'.output.trans r.output,Nat.le_trans r.size r'.size,fun b hb h1=>?_,fun b hb h1=>?_,fun b hb=>?_,fun o ho=>?_,r'.norm,hd,ht,fun o h hh=>?_,r.w5⟩
 ·exact (r'.old b (Nat.lt_of_lt_of_le hb r.size) (hT b hb h1)).trans (r.old b hb h1)
 ·have h2:=r.col b hb h1;refine (r'.col b (Nat.lt_of_lt_of_le hb r.size) (hT b hb h1)).trans ?_;unfold baseχ;rw[if_pos (by rw[h2]; exact hχ b)]; exact h2
 ·rcases r'.own b hb with h | h
  ·exact r.own b h
  ·exact .inr (Nat.le_trans r.size h)
 ·exact⟨(r'.pin o ho).1.trans (r.pin o ho).1,(r'.pin o ho).2.trans (r.pin o ho).2⟩
 ·rw[hp] at hh ⊢; exact r'.gM o h hh
theorem bP.free {χ':Col} {w':World} (r:bP w0 χ0 T0 s a w G) (hos:w'.os=w.os) (htape:w'.tape=w.tape) (ig:w'.output=w.output) (hsz:w.heap.size<=w'.heap.size)
  (hcol:∀ b,b<w.heap.size->χ' b=G.χ b) (hnew:∀ b,w.heap.size<=b->χ' b<=1) (hn:Norm χ' w')
  (hblk:∀ b,b<w.heap.size->(G.χ b=1/\w0.heap.size<=b/\∀ d∈a.defers,d ≠ { target := .collected b,args := #[] })\/w'.heap[b]?=w.heap[b]?):bP w0 χ0 T0 s a w' { G with χ:=χ' }:=by
 have e:Ext G s.hp w { G with χ:=χ' } s.hp w':=⟨fun b hb hlt=>⟨(hcol b hlt).trans hb,(hblk b hlt).resolve_left fun h=>by have hb:G.χ b=0:=hb; omega⟩,fun _ _=>rfl,fun _ _=>rfl,fun _ h=>h⟩;have st:Chg [1] G.χ w χ' w':=⟨hos,htape,ig,hsz,fun b hb _=>hcol b hb,fun b hb h1=>(hblk b hb).resolve_left fun h=>h1 (by rw[h.1]; simp)⟩;refine⟨hos.trans r.os,htape.trans r.tape,ig.trans r.output,Nat.le_trans r.size hsz,fun b hb h1=>?_,fun b hb h1=>?_,fun b hb=>?_,r.pin,hn,⟨r.defers.1,fun d hd=>?_⟩,fun t=>(r.tms t).ext e,fun o h hh=>?_,r.w5⟩
 ·exact ((hblk b (Nat.lt_of_lt_of_le hb r.size)).resolve_left fun h=>by omega).trans (r.old b hb h1)
 ·exact (hcol b (Nat.lt_of_lt_of_le hb r.size)).trans (r.col b hb h1)
 ·by_cases hb':b<w.heap.size
  ·exact r.own b (by have:=hcol b hb'; have hb:2<=χ' b:=hb; omega)
  ·have:=hnew b (by omega);have hb:2<=χ' b:=hb;omega
 ·obtain⟨D,h1,h2,h3,h4,h5⟩:=r.defers.2 d hd;exact⟨D,h1,h2,Nat.lt_of_lt_of_le h3 hsz,(hcol D h3).trans h4,((hblk D h3).resolve_left fun h=>h.2.2 d hd h1).trans h5⟩
 ·exact (r.gM o h hh).ext e st (by simp) (by simp) (by rw[hh]; simp)
theorem bP.Ib {b:Nat} {o:Obj} (r:bP w0 χ0 T0 s a w G) (h0:w0.heap.size<=b) (h1:G.χ b=1) (hd:∀ d∈a.defers,d ≠ { target := .collected b,args := #[] }):bP w0 χ0 T0 s a (w.putObj b o) G:=by
 have:=r.free (χ':=G.χ) (w':=w.putObj b o) rfl rfl rfl (by simp) (fun _ _=>rfl) (fun c hc=>by rw[r.norm c hc]; omega) (fun c hc=>r.norm c (by simpa using hc)) (fun c _=>by
  by_cases hcb:c=b
  ·subst hcb; exact .inl ⟨h1,h0,hd⟩
  ·exact .inr (World.putObj_heap_other hcb))
 exact this
def addχ (G:Gh) (b:Nat):Gh:={ G with χ:=fun c=>if c=b then 1 else G.χ c }
theorem bP.JV (o:Obj) (r:bP w0 χ0 T0 s a w G):bP w0 χ0 T0 s a (w.alloc o) (addχ G w.heap.size):=by
 refine r.free rfl rfl rfl (by simp) (fun b hb=>if_neg (by omega)) (fun b hb=>?_) (fun b hb=>?_) (fun b hb=>.inr (Below.heap_alloc w o b hb))
 ·show (if b=w.heap.size then 1 else G.χ b)<=1;split
  ·omega
  ·rw[r.norm b hb]; omega
 ·rw[World.size_alloc] at hb;show (if b=w.heap.size then 1 else G.χ b)=0;rw[if_neg (by omega)]; exact r.norm b (by omega)
end
end Go.Lad
namespace Go.Lad
open Go.RowKit
def QF (B:St->(AEx->St->Prop)->Prop) (s:St) (Q:AEx->St->Prop):Prop :=
 ∃ (α:Type) (tms:α->List (Nat×Slot)) (hps:α->List (Nat×cu)) (μ:α->Nat),(∃ x σ,Sub σ s (tms x) (hps x)) /\
  ∀ x,B (oy (tms x) (hps x)) fun e s'=>match e with
   | .normal=>∃ y σ,Sub σ s' (tms y) (hps y)/\μ y<μ x
   | e=>Q e s'
def CJ (K:St->Prop) (s:St):Prop:=K s\/∃ tms hps σ,Sub σ s tms hps/\K (oy tms hps)
def qE:Code->Nat
 | .region id _ _=>id
 | .seq a _=>qE a
 | .block _ b=>qE b
 | .loop b=>qE b
 | .scope b=>qE b
 | _=>1000000
def oW (js:List Nat) (b:Code) (K:St->Prop) (s:St):Prop:=if js.contains (qE b) then CJ K s else K s
def Gd (K:St->Prop) (Q:AEx->St->Prop):AEx->St->Prop
 | .normal,s=>K s
 | e,s=>Q e s
def JW (id:Nat) (Q:AEx->St->Prop):AEx->St->Prop
 | .exit i,s=>if i=id then Q .normal s else Q (.exit i) s
 | e,s=>Q e s
def CK (x:Slot) (A B:Prop):Prop :=
 match x with
 | .c (.v (.p (.bool t)))=>(t=true->A)/\(t=false->B)
 | .c (.v (.nb p l))=>if p then (l=[]->A)/\B else A/\(l=[]->B)
 | _=>False
def rh (os:List Nat) (cs:List cu) (hp:Hp):Hp:=fun o=>match ae (os.zip cs) o with | some h=>some h | none=>hp o
def St.xL (s:St) (ts:List Nat):St:={ s with tm:=fun t=>if t∈ts then .dead else s.tm t }
structure CL (w0:World) (χ0:Col) (T0:Ctx) (s:St) (a:Act) (l:Nat) (r:Loop) (G:Gh) (W:World):Prop where
 rep:bP w0 χ0 T0 s a W G
 RG:W.heap[l]?=some (.loop r)
 col:G.χ l=1
def uf (P:Program) (gf:FuncId) (xs:List (List Cmp)) (cs:Nat->List cu):Prop :=
 ∀ (w0:World) (χ0:Col) (T0:Ctx) (a:Act) (tm:Nat->Slot) (tg:Nat) (os:List Nat) (lb:Array Value) (l m:Nat) (r:Loop) (I:Nat->Hp->Prop) (Jx:World->Prop) (W:World),
  (∀ b,χ0 b<=1)->w0.heap.size<=l->tm tg = .c (.v (.fn (2 * gf) os))->a.tmps.getD tg undef = .func (.func gf) #[] lb->(∀ k,(cs k).length=os.length)->os.Nodup ->
  (∀ (m k:Nat) (hk:k<xs.length) (hp:Hp) G W' vs,I k hp->CL w0 χ0 T0 ⟨tm,rh os (cs k) hp⟩ a l r G W'->dU (CRd G (rh os (cs k) hp) W') xs[k] vs ->
   YieldAt Fence.wide m P l vs.toArray W' fun e W''=>(e = .returned (.bool true)/\∃ hp' G',I (k+1) hp'/\CL w0 χ0 T0 ⟨tm,rh os (cs k) hp'⟩ a l r G' W'')\/(e = .returned (.bool false)/\Jx W'')) ->
  (∃ hp G,I 0 hp/\CL w0 χ0 T0 ⟨tm,rh os (cs 0) hp⟩ a l r G W) ->
  CallsIn Fence.wide m P gf (#[.func (.yield l) #[] #[]]++lb) W fun e W'=>(∃ v,e = .returned v)/\((∃ hp G,I xs.length hp/\CL w0 χ0 T0 ⟨tm,rh os (cs xs.length) hp⟩ a l r G W')\/Jx W')
def ES (P:Program) (A B:St->(AEx->St->Prop)->Prop) (g:Operand) (ps:List Nat) (ts:List Nat) (s:St) (Q:AEx->St->Prop):Prop :=
 ∃ (tg:Nat) (gf:FuncId) (os:List Nat) (xs:List (List Cmp)) (cs:Nat->List cu) (α:Type) (R:Nat->α->Prop) (tms:List (Nat×Slot)) (H:Nat->α->List (Nat×cu)),
  g = .tmp tg/\uf P gf xs cs/\ae tms tg=some (.c (.v (.fn (2 * gf) os)))/\(∀ k,(cs k).length=os.length)/\os.Nodup/\(∀ args w,(callFunc gf args).run P w = .ok (.enter gf args) w)/\(∀ x∈xs,x.length=ps.length)/\(∀ x∈tms,x.1∈ts->x.2 = .dead) /\
  (∀ k x,(fun o=>ae (H k x) o)=rh os (cs k) (fun o=>ae (H 0 x) o))/\(∃ x σ,R 0 x/\Sub σ s tms (H 0 x)) /\
  (∀ (k:Nat) (hk:k<xs.length) (x:α),R k x->A (oy (ps.zip (xs[k].map Slot.c)++tms) (H k x)) fun e s1=>match e with
   | .normal=>B s1 fun e s'=>match e with
    | .normal=>∃ (y:α) (σ:Ren),R (k+1) y/\Sub σ s' tms (H k y)
    | .exit i=>Q (.exit i) (s'.xL ts)
    | .ret=>Q .ret (s'.xL ts)
   | _=>False) /\
  (∀ x:α,R xs.length x->Q .normal (oy tms (H xs.length x)))
def nodupB:List Nat->Bool
 | []=>true
 | x::r=>!r.contains x && nodupB r
theorem xM:∀ l:List Nat,nodupB l=true->l.Nodup
 | [],_=>List.nodup_nil
 | x::r,h=>by
  unfold nodupB at h;rw[Bool.and_eq_true] at h;exact List.nodup_cons.2 ⟨fun hm=>(by have:=h.1; rw[List.contains_iff_mem.2 hm] at this; cases this),xM r h.2⟩
def gz (Γ:Opt) (n:Nat):Code->Bool
 | .region _ ops draw=>ops.toList.all (fun o=>match o.dst with | some d=>decide (d<n) && decide (d<10000) | none=>true) && (!draw || xJ Γ ops.toList)
 | .seq a b=>gz Γ n a && gz Γ n b
 | .cond _ a b=>gz Γ n a && gz Γ n b
 | .block _ b=>gz Γ n b
 | .loop b=>gz Γ n b
 | .scope b=>gz Γ n b
 | .rangeFunc _ ps a b=>gz Γ n a && gz Γ n b && iV a && iV b && ps.toList.all (fun p=>decide (p<n)) && nodupB ps.toList
 | _=>true
def OQ (P:Program) (Γ:Opt) (c:Code) (s s':St):Prop :=
 ∀ (w0:World) (χ0:Col) (T0:Ctx) (n:Nat) (a:Act) (w:World),P.follows .mixedOrders=true->(∀ b,χ0 b<=1)->T0.lo<=w0.heap.size->gz Γ n c=true->Γ.nt=n->aX w0 χ0 T0 n s a w->c.wp P (fun e a' w'=>e = .normal/\aX w0 χ0 T0 n s' a' w') a w
def gv (P:Program) (Γ:Opt):Code->St->(AEx->St->Prop)->Prop
 | .skip,s,Q=>Q .normal s
 | .region _ ops _,s,Q=>qz P Γ ops.toList ops.toList s (fun s'=>Q .normal s')
 | .seq a b,s,Q=>gv P Γ a s (Gd (oW Γ.js b fun s'=>gv P Γ b s' Q) Q)\/(iV (.seq a b)=false/\∃ s',OQ P Γ (.seq a b) s s'/\Q .normal s')
 | .cond c a b,s,Q=>CK (s.ev c) (gv P Γ a s Q) (gv P Γ b s Q)
 | .block id b,s,Q=>gv P Γ b s (JW id Q)
 | .loop b,s,Q=>QF (gv P Γ b) s Q
 | .exit id,s,Q=>Q (.exit id) s
 | .ret,s,Q=>Q .ret s
 | .scope b,s,Q=>gv P Γ b s Q
 | .rangeFunc g ps a b,s,Q=>ES P (gv P Γ a) (gv P Γ b) g ps.toList (ps.toList++gE a++gE b) s Q
 | _,_,_=>False
section
variable {P:Program} {Γ:Opt} {s:St} {w0:World} {χ0:Col} {T0:Ctx} {n:Nat} {a:Act} {w:World}
def zY (w0:World) (χ0:Col) (T0:Ctx) (n:Nat) (Q:AEx->St->Prop):Exit->Act->World->Prop
 | .normal,a,w=>∃ s,Q .normal s/\aX w0 χ0 T0 n s a w
 | .exit i,a,w=>∃ s,Q (.exit i) s/\aX w0 χ0 T0 n s a w
 | .ret,a,w=>∃ s,Q .ret s/\aX w0 χ0 T0 n s a w
 | _,_,_=>False
def QG:AEx->Exit
 | .normal=>.normal
 | .exit i=>.exit i
 | .ret=>.ret
theorem CM {id:Nat} {ops:Array Oper} {draw:Bool} {o:Oper} {k:Nat} (ho:o∈ops.toList) (hk:o.dst=some k):k∈gE (.region id ops draw):=List.mem_filterMap.2 ⟨o,ho,hk⟩
theorem kK.mono {ts ts':List Nat} {a b:Act} (h:kK ts a b) (hs:∀ t∈ts,t∈ts'):kK ts' a b:=fun t ht=>h t fun h2=>ht (hs t h2)
theorem kK.trans {ts:List Nat} {a b c:Act} (h:kK ts a b) (h2:kK ts b c):kK ts a c:=fun t ht=>(h2 t ht).trans (h t ht)
theorem lD {l0 m:Nat} {ts:List Nat} (hχ:∀ b,χ0 b<=1):∀ (c:Code) (s:St) (Q:AEx->St->Prop) (a:Act) (w:World),gz Γ n c=true->iV c=true->(∀ t∈gE c,t∈ts)->gv P Γ c s Q->aX w0 χ0 T0 n s a w ->
  c.wpIn (Fence.wide.inRound l0) m P (fun e a' w'=>zY w0 χ0 T0 n Q e a' w'/\kK ts a a') a w
 | .skip,s,Q,a,w,_,_,_,h,ha=>wpIn_skip ⟨⟨s,h,ha⟩,kK.refl _ _⟩
 | .region id ops draw,s,Q,a,w,hk,hr,hd,h,ha=>by
  unfold gz at hk;unfold iV at hr;rw[Bool.and_eq_true] at hk hr;have hdst:∀ o∈ops.toList,∀ k:Nat,o.dst=some k->k<n:=fun o ho k hd=>by
   have:=List.all_eq_true.1 hk.1 o ho;rw[hd] at this;simp at this;exact this.1
  have hdr:draw=false:=by simpa using hr.1
  subst hdr;refine wpIn_region_list ?_;have:=Gc (ops:=ops.toList) (l0:=l0) (m:=m) (Q:=fun e a' w'=>zY w0 χ0 T0 n Q e a' w'/\kK ts a a') (ts:=ts) (a0:=a) hχ hdst (fun o ho c hc=>by
    have:=List.all_eq_true.1 hr.2 o ho;rw[hc] at this; cases this)
   (fun o ho k hk=>hd k (CM ho hk)) (K:=fun s'=>Q .normal s') (fun s a w h ha hs=>⟨⟨s,h,ha⟩,hs⟩) ops.toList s a w (fun o ho=>ho) ha (kK.refl _ _) (mY _ _ h)
  simpa using this
 | .seq x y,s,Q,a,w,hk,hr,hd,h,ha=>by
  rcases h with h | ⟨h,_⟩
  case inr=>rw[hr] at h; cases h
  unfold gz at hk;unfold iV at hr;rw[Bool.and_eq_true] at hk hr;refine wpIn_seq (wpIn_mono (lD hχ x s _ a w hk.1 hr.1 (fun t ht=>hd t (List.mem_append_left _ ht)) h ha) fun e a' w' hq=>?_);obtain⟨hq,hs⟩:=hq;cases e with
  | normal =>
   obtain⟨s',h1,h2⟩:=hq;have h1:CJ (fun s'=>gv P Γ y s' Q) s':=by
    have h1:(if Γ.js.contains (qE y) then CJ (fun s'=>gv P Γ y s' Q) s' else gv P Γ y s' Q):=h1;split at h1
    ·exact h1
    ·exact .inl h1
   have go:∀ s2,gv P Γ y s2 Q->aX w0 χ0 T0 n s2 a' w'->y.wpIn (Fence.wide.inRound l0) m P (fun e a' w'=>zY w0 χ0 T0 n Q e a' w'/\kK ts a a') a' w':=fun s2 h3 h4 =>
    wpIn_mono (lD hχ y s2 Q a' w' hk.2 hr.2 (fun t ht=>hd t (List.mem_append_right _ ht)) h3 h4) fun e a2 w2 h5=>⟨h5.1,hs.trans h5.2⟩
   rcases h1 with h1 | ⟨tms,hps,σ,h1,h3⟩
   ·exact go s' h1 h2
   ·exact go _ h3 (xl hχ h1 h2)
  | exit i=>exact⟨hq,hs⟩
  | ret=>exact⟨hq,hs⟩
  | goto l=>exact hq.elim
  | panic c=>exact hq.elim
  | outgrown=>exact hq.elim
 | .cond c x y,s,Q,a,w,hk,hr,hd,h,ha=>by
  unfold gz at hk;unfold iV at hr;rw[Bool.and_eq_true] at hk hr;unfold gv at h;have hx:∀ t∈gE x,t∈ts:=fun t ht=>hd t (List.mem_append_left _ ht);have hy:∀ t∈gE y,t∈ts:=fun t ht=>hd t (List.mem_append_right _ ht);obtain⟨hn,G,r⟩:=ha;have hv:=r.ev c;unfold CK at h;split at h
  ·rename_i t hs;rw[hs] at hv;exact wpIn_cond_split (lM hv) (fun ht=>lD hχ x s Q a w hk.1 hr.1 hx (h.1 ht) ⟨hn,G,r⟩) (fun ht=>lD hχ y s Q a w hk.2 hr.2 hy (h.2 ht) ⟨hn,G,r⟩)
  ·rename_i p l hs;rw[hs] at hv;obtain⟨b,hb,hl⟩:=LRd.val hv;cases p with
   | true =>
    simp only[if_true] at h;exact wpIn_cond_split hb (fun ht=>lD hχ x s Q a w hk.1 hr.1 hx (h.1 (hl ht)) ⟨hn,G,r⟩) (fun ht=>lD hχ y s Q a w hk.2 hr.2 hy h.2 ⟨hn,G,r⟩)
   | false =>
    simp only[Bool.false_eq_true,if_false] at h;exact wpIn_cond_split hb (fun ht=>lD hχ x s Q a w hk.1 hr.1 hx h.1 ⟨hn,G,r⟩) (fun ht=>lD hχ y s Q a w hk.2 hr.2 hy (h.2 (hl ht)) ⟨hn,G,r⟩)
  ·exact h.elim
 | .block id b,s,Q,a,w,hk,hr,hd,h,ha=>by
  unfold gz at hk;unfold iV at hr;refine wpIn_block (wpIn_mono (lD hχ b s _ a w hk hr hd h ha) fun e a' w' hq=>?_);obtain⟨hq,hs⟩:=hq;cases e with
  | normal=>exact⟨hq,hs⟩
  | exit i =>
   obtain⟨s',h1,h2⟩:=hq;have h1:(if i=id then Q .normal s' else Q (.exit i) s'):=h1;simp only[Exit.inBlock];split
   ·rename_i hi; rw[if_pos hi] at h1; exact⟨⟨s',h1,h2⟩,hs⟩
   ·rename_i hi; rw[if_neg hi] at h1; exact⟨⟨s',h1,h2⟩,hs⟩
  | ret=>exact⟨hq,hs⟩
  | goto l=>exact hq.elim
  | panic c=>exact hq.elim
  | outgrown=>exact hq.elim
 | .exit id,s,Q,a,w,_,_,_,h,ha=>wpIn_exit ⟨⟨s,h,ha⟩,kK.refl _ _⟩
 | .ret,s,Q,a,w,_,_,_,h,ha=>wpIn_ret ⟨⟨s,h,ha⟩,kK.refl _ _⟩
 | .loop _,_,_,_,_,_,hr,_,_,_=>by cases hr
 | .scope _,_,_,_,_,_,hr,_,_,_=>by cases hr
 | .rangeFunc _ _ _ _,_,_,_,_,_,hr,_,_,_=>by cases hr
 | .label _,_,_,_,_,_,hr,_,_,_=>by cases hr
 | .goto _,_,_,_,_,_,hr,_,_,_=>by cases hr
 | .refuse _,_,_,_,_,_,hr,_,_,_=>by cases hr
def OR (w0:World) (χ0:Col) (T0:Ctx) (n:Nat) (Q:AEx->St->Prop) (ts:List Nat) (a:Act) (G:Gh) (W:World):Exit->Act->World->Prop:=fun e a' w' =>
 ∃ ex s' G',QG ex=e/\Q ex s'/\a'.tmps.size=n/\bP w0 χ0 T0 s' a' w' G'/\kK ts a a'/\OP G W G' w'
theorem zZ {l0 m:Nat} {ts:List Nat} {c:Code} {Q:AEx->St->Prop} {G:Gh} (hχ:∀ b,χ0 b<=1) (hk:gz Γ n c=true) (hr:iV c=true) (hd:∀ t∈gE c,t∈ts) (h:gv P Γ c s Q) (hn:a.tmps.size=n) (r:bP w0 χ0 T0 s a w G) :
  c.wpIn (Fence.wide.inRound l0) m P (OR w0 χ0 T0 n Q ts a G w) a w:=by
 have hb:=r.base;refine wpIn_mono (lD (l0:=l0) (m:=m) (ts:=ts) (baseχ_le G) c s Q a w hk hr hd h ⟨hn,G,hb⟩) fun ex a' w' hq=>?_;obtain⟨hq,hs⟩:=hq;have go:∀ (ax:AEx) (s':St),Q ax s'->QG ax=ex->aX w (baseχ G) (zX T0 G) n s' a' w'->OR w0 χ0 T0 n Q ts a G w ex a' w':=fun ax s' h1 h2 ⟨h3,G',h4⟩ =>
  ⟨ax,s',G',h2,h1,h3,r.back hχ h4 rfl h4.tms h4.defers,hs,h4.QE⟩
 cases ex with
 | normal=>obtain⟨s',h1,h2⟩:=hq; exact go .normal s' h1 rfl h2
 | exit i=>obtain⟨s',h1,h2⟩:=hq; exact go (.exit i) s' h1 rfl h2
 | ret=>obtain⟨s',h1,h2⟩:=hq; exact go .ret s' h1 rfl h2
 | goto l=>exact hq.elim
 | panic c=>exact hq.elim
 | outgrown=>exact hq.elim
theorem tq {α:Type}:∀ (l m:List (Nat×α)) (k:Nat),ae (l++m) k=match ae l k with | some x=>some x | none=>ae m k
 | [],_,_=>rfl
 | x::r,m,k=>by
  show (if k=x.1 then some x.2 else ae (r++m) k)=match (if k=x.1 then some x.2 else ae r k) with | some x=>some x | none=>ae m k
  by_cases h:k=x.1
  ·rw[if_pos h,if_pos h]
  ·rw[if_neg h,if_neg h,tq r m k]
theorem lS {α:Type} (p:Nat) (v:α) (l:List (Nat×α)) (k:Nat):ae ((p,v)::l) k=if k=p then some v else ae l k:=rfl
theorem JX {α:Type} {l:List (Nat×α)} {k:Nat} (h:∀ x∈l,x.1≠k):ae l k=none:=by
 cases hl:ae l k with
 | none=>rfl
 | some v=>exact absurd rfl (h _ (cx hl))
theorem JY {G:Gh} {hp:Hp} {w:World}:∀ (ps:List Nat) (cs:List Cmp) (vs:List Value) (t0:Array Value) (tms:List (Nat×Slot)),ps.length=cs.length->dU (CRd G hp w) cs vs->ps.Nodup->(∀ p∈ps,p<t0.size) ->
  (∀ t,SRd G hp w ((ae tms t).getD .dead) (t0.getD t undef))->∀ t,SRd G hp w ((ae (ps.zip (cs.map Slot.c)++tms) t).getD .dead) (((ps.zip vs).foldl (fun t (x:Nat×Value)=>t.setIfInBounds x.1 x.2) t0).getD t undef)
 | [],cs,vs,t0,tms,_,_,_,_,h,t=>h t
 | p::ps,[],_,_,_,hl,_,_,_,_,_=>by cases hl
 | p::ps,c::cs,[],_,_,_,h2,_,_,_,_=>by have:=h2.1; cases this
 | p::ps,c::cs,v::vs,t0,tms,hl,h2,hn,hb,h,t=>by
  rw[List.nodup_cons] at hn;have hpt:p<t0.size:=hb p List.mem_cons_self;have ih:=JY (G:=G) (hp:=hp) (w:=w) ps cs vs (t0.setIfInBounds p v) ((p,.c c)::tms) (by simpa using hl) ⟨by simpa using h2.1,fun i a b ha hb=>h2.2 (i+1) a b (by simpa using ha) (by simpa using hb)⟩ hn.2 (fun q hq=>by rw[Array.size_setIfInBounds]; exact hb q (List.mem_cons_of_mem _ hq)) (fun t=>by
   show SRd G hp w ((if t=p then some (Slot.c c) else ae tms t).getD .dead) _;rw[Array.getD_eq_getD_getElem?,Array.getElem?_setIfInBounds];by_cases ht:t=p
   ·subst ht;rw[if_pos rfl,if_pos rfl,if_pos hpt];exact h2.2 0 c v rfl rfl
   ·rw[if_neg ht,if_neg (fun e=>ht e.symm),← Array.getD_eq_getD_getElem?]; exact h t) t
  have e:ae ((p,Slot.c c)::(ps.zip (cs.map Slot.c)++tms)) t=ae (ps.zip (cs.map Slot.c)++(p,Slot.c c)::tms) t:=by
   rw[tq,lS,lS];by_cases ht:t=p
   ·subst ht;rw[if_pos rfl,JX (fun x hx e=>hn.1 (by rw[← e]; exact (List.of_mem_zip (a:=x.1) (b:=x.2) hx).1))];exact (if_pos rfl).symm
   ·rw[if_neg ht,if_neg ht,tq]
  show SRd G hp w ((ae ((p,Slot.c c)::(ps.zip (cs.map Slot.c)++tms)) t).getD .dead) _;rw[e]; exact ih
theorem xN:∀ (l:List (Nat×Value)) (t0:Array Value),(l.foldl (fun t (x:Nat×Value)=>t.setIfInBounds x.1 x.2) t0).size=t0.size
 | [],_=>rfl
 | x::l,t0=>by rw[List.foldl_cons,xN l,Array.size_setIfInBounds]
theorem xO:∀ (ps:List Nat) (vs:List Value) (t0:Array Value) (t:Nat),t∉ps->((ps.zip vs).foldl (fun t (x:Nat×Value)=>t.setIfInBounds x.1 x.2) t0).getD t undef=t0.getD t undef
 | [],_,_,_,_=>rfl
 | p::ps,[],_,_,_=>rfl
 | p::ps,v::vs,t0,t,ht=>by
  rw[List.zip_cons_cons,List.foldl_cons,xO ps vs _ t fun h=>ht (List.mem_cons_of_mem _ h)];rw[Array.getD_eq_getD_getElem?,Array.getElem?_setIfInBounds,if_neg (fun e=>ht (List.mem_cons.2 (.inl (show t=p from e.symm)))),← Array.getD_eq_getD_getElem?]
theorem oo.put {lo:Nat} {χ:Col} {ds:List Deferred} {l:Nat} {r:Loop} {o:Obj} (h:oo lo χ w ds) (hl:w.heap[l]?=some (.loop r)):oo lo χ (w.putObj l o) ds:=⟨h.1,fun d hd=>by
 obtain⟨D,h1,h2,h3,h4,h5⟩:=h.2 d hd;have hne:D≠l:=by rintro rfl; rw[h5] at hl; cases hl
 exact⟨D,h1,h2,by simpa using h3,h4,(World.putObj_heap_other hne).trans h5⟩⟩
theorem oo.ne {lo:Nat} {χ:Col} {ds:List Deferred} {l:Nat} {r:Loop} (h:oo lo χ w ds) (hl:w.heap[l]?=some (.loop r)):∀ d∈ds,d ≠ { target := .collected l,args := #[] }:=by
 rintro d hd rfl;obtain⟨D,h1,h2,h3,h4,h5⟩:=h.2 _ hd;injection h1 with h1
 injection h1 with h1
 subst h1;rw[h5] at hl; cases hl
theorem JZ {G:Gh} {hp:Hp} {ts:List Nat} {a b:Act} {s:St} (h:∀ t,SRd G hp w (s.tm t) (b.tmps.getD t undef)) (hs:kK ts a b):∀ t,SRd G hp w ((s.xL ts).tm t) (a.tmps.getD t undef):=fun t=>by
 show SRd G hp w (if t∈ts then .dead else s.tm t) _;by_cases ht:t∈ts
 ·rw[if_pos ht]; trivial
 ·rw[if_neg ht,← hs t ht]; exact h t
theorem Ic {g:Operand} {ps:Array Tmp} {A B:Code} {Q:AEx->St->Prop} (hχ:∀ b,χ0 b<=1) (hlo:T0.lo<=w0.heap.size) (hkA:gz Γ n A=true) (hkB:gz Γ n B=true) (hrA:iV A=true) (hrB:iV B=true) (hps:∀ p∈ps.toList,p<n) (hnd:ps.toList.Nodup)
  (h:ES P (gv P Γ A) (gv P Γ B) g ps.toList (ps.toList++gE A++gE B) s Q) (ha:aX w0 χ0 T0 n s a w):(Code.rangeFunc g ps A B).wp P (zY w0 χ0 T0 n Q) a w:=by
 obtain⟨tg,gf,os,xs,cs,α,R,tms,H,rfl,hit,hg,hcs,hond,eg,hxl,htd,hcap,⟨x0,σ0,hR0,hsub⟩,hround,hend⟩:=h;have hst:∀ k x,oy tms (H k x)=(⟨fun t=>(ae tms t).getD .dead,rh os (cs k) (fun o=>ae (H 0 x) o)⟩:St):=fun k x=>by
  unfold oy; rw[← hcap k x]
 obtain⟨hn,G0,r0⟩:=ha;have r:=Bc hχ hsub r0;generalize dR σ0 G0=G at r;refine (wpIn_wide (n:=1)).1 (wpIn_rangeFunc fun fn _=>?_);have hv:SRd G _ w ((ae tms tg).getD .dead) (a.tmps.getD tg undef):=r.tms tg;rw[hg] at hv;have hval:=LRd.val (show LRd G _ w (.fn (2 * gf) os) (a.tmps.getD tg undef) from hv);obtain⟨lb,hlb⟩:∃ lb,(os.map fun o=>ptr (G.bl o) 0).toArray=lb:=⟨_,rfl⟩;have hval:a.tmps.getD tg undef = .func (.func gf) #[] lb:=by
  have h1:a.tmps.getD tg undef=fnV (2 * gf) (os.map fun o=>ptr (G.bl o) 0):=hval;rw[h1,pS,hlb]
 have hge:a.eval (.tmp tg) = .func (.func gf) #[] lb:=hval;obtain⟨rec0,hrec⟩:∃ rec0:Loop,rec0 = { state := .ready,pending:=none,fn,tmps:=a.tmps,params:=ps,assign:=A,body:=B,defers:=w.heap.size }:=⟨_,rfl⟩;obtain⟨W1,hW1⟩:∃ W1,(w.alloc (.deferred (some []))).alloc (.loop rec0)=W1:=⟨_,rfl⟩;obtain⟨l,hl⟩:∃ l,w.heap.size+1=l:=⟨_,rfl⟩;obtain⟨a',ha'⟩:∃ a':Act,({ a with defers:={ target := .collected w.heap.size,args := #[] }::a.defers }:Act)=a':=⟨_,rfl⟩;have ht':a'.tmps=a.tmps:=by rw[← ha']
 have hsz1:(w.alloc (.deferred (some []))).heap.size=l:=by rw[World.size_alloc]; exact hl
 have hsz2:W1.heap.size=l+1:=by rw[← hW1,World.size_alloc,hsz1]
 have hL1:W1.heap[l]?=some (.loop rec0):=by rw[← hW1,← hsz1]; exact World.alloc_heap_new _ _
 have hD1:W1.heap[w.heap.size]?=some (.deferred (some [])):=by
  rw[← hW1]; exact (Below.heap_alloc _ _ _ (by rw[hsz1]; omega)).trans (World.alloc_heap_new w _)
 obtain⟨G1,hG1⟩:∃ G1,addχ (addχ G w.heap.size) (w.alloc (.deferred (some []))).heap.size=G1:=⟨_,rfl⟩;have r1:bP w0 χ0 T0 (oy tms (H 0 x0)) a W1 G1:=by
  rw[← hW1,← hG1]; exact (r.JV _).JV _
 have hc1:G1.χ l=1:=by rw[← hG1,hsz1]; exact if_pos rfl
 have hcD:G1.χ w.heap.size=1:=by
  rw[← hG1,hsz1];show (if w.heap.size=l then 1 else if w.heap.size=w.heap.size then 1 else G.χ _)=1;rw[if_neg (by omega),if_pos rfl]
 have hw0:=r.size;have r1':bP w0 χ0 T0 (oy tms (H 0 x0)) a' W1 G1:=by
  refine⟨r1.os,r1.tape,r1.output,r1.size,r1.old,r1.col,r1.own,r1.pin,r1.norm,?_,fun t=>by rw[ht']; exact r1.tms t,r1.gM,r1.w5⟩;rw[← ha'];refine⟨List.nodup_cons.2 ⟨fun hm=>?_,r.defers.1⟩,fun d hd=>?_⟩
  ·obtain⟨D,h1,h2,h3,h4,h5⟩:=r.defers.2 _ hm;injection h1 with h1
   injection h1 with h1
   omega
  ·rcases List.mem_cons.1 hd with rfl | hd
   ·exact⟨w.heap.size,rfl,by omega,by omega,hcD,hD1⟩
   ·exact r1.defers.2 d hd
 have hl0:w0.heap.size<=l:=by omega
 refine⟨l,[{ target := .collected w.heap.size,args := #[] }],W1,{ target := .fn (.func gf) lb,args := #[.func (.yield l) #[] #[]] },W1,gf,#[.func (.yield l) #[] #[]]++lb,W1,?_,?_,fun _ _=>trivial,?_,fun h=>by simp [Fence.wide] at h,?_⟩
 ·rw[← hW1,hrec,← hl]; exact run_enterLoop_outer _ _ _ _ _
 ·simp only[resolve,hge];simp [go_sem]
 ·simp [invoke,go_sem,eg]
 let Jx:World->Prop:=fun W=>∃ (ex:AEx) (c:Code) (s':St) (G':Gh) (rc:Loop),(ex = .ret/\c = .ret\/∃ i,ex = .exit i/\c = .exit i)/\Q ex s'/\bP w0 χ0 T0 s' a' W G'/\W.heap[l]?=some (.loop rc)/\rc.state ≠ .busy/\rc.pending=some c/\G'.χ l=1
 refine (hit w0 χ0 T0 a' (fun t=>(ae tms t).getD .dead) tg os lb l (1-1) rec0 (fun k hp=>∃ x:α,R k x/\hp=fun o=>ae (H 0 x) o) Jx W1 hχ hl0 (by rw[hg]; rfl) (by rw[ht']; exact hval) hcs hond ?_ ⟨_,G1,⟨x0,hR0,rfl⟩,by rw[← hst]; exact r1',hL1,hc1⟩).mono ?_
 ·
  rintro m k hk hp G2 W2 vs ⟨x,hRk,rfl⟩ ⟨r2,hL2,hc2⟩ hvs;rw[← hst] at r2;rw[← hcap k x] at hvs;have hvl:vs.length=ps.size:=by rw[← hvs.1,hxl _ (List.getElem_mem hk),Array.length_toList]
  have hy:=run_yield (P:=P) (args:=vs.toArray) hL2 (by rw[hrec]; simpa using hvl);rw[hrec] at hy;refine⟨fn,_,A,B,hy,roundIn_of_wpIn trivial ?_⟩;obtain⟨aR,haR⟩:∃ aR:Act,({ tmps:=(ps.zip vs.toArray).foldl (fun tmps (t,v)=>tmps.setIfInBounds t v) a.tmps,defers:=[] }:Act)=aR:=⟨_,rfl⟩;have hzt:aR.tmps=(ps.toList.zip vs).foldl (fun t (x:Nat×Value)=>t.setIfInBounds x.1 x.2) a.tmps:=by
   rw[← haR];show (ps.zip vs.toArray).foldl _ _=_;rw[← Array.foldl_toList,Array.toList_zip]
  rw[haR];have hnR:aR.tmps.size=n:=by rw[hzt,xN]; exact hn
  have hsR:kK (ps.toList++gE A++gE B) a' aR:=fun t ht=>by
   rw[hzt,ht'];exact xO _ _ _ t fun h=>ht (by simp [h])
  have rR:bP w0 χ0 T0 (oy (ps.toList.zip (xs[k].map Slot.c)++tms) (H k x)) aR W2 G2:=by
   refine⟨r2.os,r2.tape,r2.output,r2.size,r2.old,r2.col,r2.own,r2.pin,r2.norm,by rw[← haR]; exact oo.nil,fun t=>?_,r2.gM,r2.w5⟩;rw[hzt];refine JY ps.toList xs[k] vs a.tmps tms (hxl _ (List.getElem_mem hk)).symm hvs hnd (fun p hp=>by rw[hn]; exact hps p hp) (fun t=>?_) t;have:=r2.tms t;rw[ht'] at this;exact this
  refine wpIn_mono (zZ (l0:=l) (m:=m) (ts:=ps.toList++gE A++gE B) hχ hkA hrA (fun t ht=>by simp [ht]) (hround k hk x hRk) hnR rR) fun e a3 W3 hq=>?_;obtain⟨ex,s3,G3,rfl,hQ3,hn3,r3,hs3,hk3⟩:=hq;cases ex with
  | exit i=>exact hQ3.elim
  | ret=>exact hQ3.elim
  | normal =>
   obtain⟨hc3,hL3⟩:=hk3.2 l (Array.getElem?_eq_some_iff.1 hL2).1 hc2;have hL3:=hL3.trans hL2;have hd3:=r2.defers.step hk3.1 hk3.2;refine⟨_,run_beginRound hL3 (by rw[hrec]),?_⟩;obtain⟨W4,hW4⟩:∃ W4,W3.putObj l (.loop { rec0 with state := .busy })=W4:=⟨_,rfl⟩;rw[hW4];have hL4:W4.heap[l]?=some (.loop { rec0 with state := .busy }):=by rw[← hW4]; exact World.putObj_heap_same (Array.getElem?_eq_some_iff.1 hL3).1
   have hd4:oo T0.lo G3.χ W4 a'.defers:=by rw[← hW4]; exact hd3.put hL3
   have r4:bP w0 χ0 T0 s3 a3 W4 G3:=by rw[← hW4]; exact r3.Ib hl0 hc3 (r3.defers.ne hL3)
   refine wpIn_mono (zZ (l0:=l) (m:=m) (ts:=ps.toList++gE A++gE B) hχ hkB hrB (fun t ht=>by simp [ht]) hQ3 hn3 r4) fun e a5 W5 hq=>?_;obtain⟨ex,s5,G5,rfl,hQ5,hn5,r5,hs5,hk5⟩:=hq;obtain⟨hc5,hL5⟩:=hk5.2 l (Array.getElem?_eq_some_iff.1 hL4).1 hc3;have hL5:=hL5.trans hL4;have hd5:=hd4.step hk5.1 hk5.2;have r6:bP w0 χ0 T0 (s5.xL (ps.toList++gE A++gE B)) a' W5 G5 :=
    ⟨r5.os,r5.tape,r5.output,r5.size,r5.old,r5.col,r5.own,r5.pin,r5.norm,hd5,JZ r5.tms ((hsR.trans hs3).trans hs5),r5.gM,r5.w5⟩
   have fin:∀ (jump:Option Code),(Instr.endRound l jump).run P W5 = .ok (.bool jump.isNone) (W5.putObj l (.loop { rec0 with state:=if jump.isNone then .ready else .done,pending:=jump })) /\
     bP w0 χ0 T0 (s5.xL (ps.toList++gE A++gE B)) a' (W5.putObj l (.loop { rec0 with state:=if jump.isNone then .ready else .done,pending:=jump })) G5 /\
     (W5.putObj l (.loop { rec0 with state:=if jump.isNone then .ready else .done,pending:=jump })).heap[l]?=some (.loop { rec0 with state:=if jump.isNone then .ready else .done,pending:=jump }):=fun jump =>
    ⟨run_endRound (r:={ rec0 with state := .busy }) jump hL5,r6.Ib hl0 hc5 (hd5.ne hL5),World.putObj_heap_same (Array.getElem?_eq_some_iff.1 hL5).1⟩
   cases ex with
   | normal =>
    obtain⟨y,σ,hRy,hsy⟩:=hQ5;have r7:=Bc hχ hsy r5;have hc7:(dR σ G5).χ l=1:=(if_pos (by rw[hc5]; omega)).trans hc5;have hd7:oo T0.lo (dR σ G5).χ W5 a'.defers:=hd5.step (Nat.le_refl _) fun b _ h1=>⟨(if_pos (by rw[h1]; omega)).trans h1,rfl⟩;have r8:bP w0 χ0 T0 (oy tms (H k y)) a' W5 (dR σ G5):=by
     refine⟨r7.os,r7.tape,r7.output,r7.size,r7.old,r7.col,r7.own,r7.pin,r7.norm,hd7,fun t=>?_,r7.gM,r7.w5⟩;by_cases ht:t∈ps.toList++gE A++gE B
     ·show SRd _ _ _ ((ae tms t).getD .dead) _;cases hl2:ae tms t with
      | none=>trivial
      | some z=>rw[show z=Slot.dead from htd _ (cx hl2) ht]; trivial
     ·rw[← ((hsR.trans hs3).trans hs5) t ht]; exact r7.tms t
    have f1:=run_endRound (P:=P) (r:={ rec0 with state := .busy }) none hL5;refine⟨_,_,f1,.inl ⟨rfl,_,dR σ G5,⟨y,hRy,rfl⟩,by rw[← hst]; exact r8.Ib hl0 hc7 (hd7.ne hL5),?_,hc7⟩⟩;rw[World.putObj_heap_same (Array.getElem?_eq_some_iff.1 hL5).1];rw[hrec]; rfl
   | exit i =>
    obtain⟨f1,f2,f3⟩:=fin (some (.exit i));exact⟨_,_,f1,.inr ⟨rfl,.exit i,.exit i,_,G5,_,.inr ⟨i,rfl,rfl⟩,hQ5,f2,f3,by simp,rfl,hc5⟩⟩
   | ret =>
    obtain⟨f1,f2,f3⟩:=fin (some .ret);exact⟨_,_,f1,.inr ⟨rfl,.ret,.ret,_,G5,_,.inl ⟨rfl,rfl⟩,hQ5,f2,f3,by simp,rfl,hc5⟩⟩
 ·
  rintro e W2 ⟨⟨v,rfl⟩,(⟨hp,G2,⟨x,hRx,rfl⟩,r2,hL2,hc2⟩ | ⟨ex,c,s',G2,rc,hex,hQ2,r2,hL2,hb2,hp2,hc2⟩)⟩
  ·rw[← hst] at r2;refine⟨none,_,by have:=run_endLoop (P:=P) hL2 (by rw[hrec]; simp); rw[hrec] at this; exact this,?_⟩;have hact:({ a with defers:=[{ target := .collected w.heap.size,args := #[] }]++a.defers }:Act)=a':=ha';rw[hact];exact⟨_,hend x hRx,by rw[ht']; exact hn,G2,r2.Ib hl0 hc2 (r2.defers.ne hL2)⟩
  ·refine⟨some c,_,by have:=run_endLoop (P:=P) hL2 hb2; rw[hp2] at this; exact this,?_⟩;have hact:({ a with defers:=[{ target := .collected w.heap.size,args := #[] }]++a.defers }:Act)=a':=ha';rw[hact];have hfin:∀ o,aX w0 χ0 T0 n s' a' (W2.putObj l o):=fun o=>⟨by rw[ht']; exact hn,G2,r2.Ib hl0 hc2 (r2.defers.ne hL2)⟩;rcases hex with⟨rfl,rfl⟩ | ⟨i,rfl,rfl⟩
   ·exact wpIn_ret ⟨_,hQ2,hfin _⟩
   ·exact wpIn_exit ⟨_,hQ2,hfin _⟩
theorem kZ (hnt:Γ.nt=n) (hm:P.follows .mixedOrders=true) (hχ:∀ b,χ0 b<=1) (hlo:T0.lo<=w0.heap.size):∀ (c:Code) (s:St) (Q:AEx->St->Prop) (a:Act) (w:World),gz Γ n c=true->gv P Γ c s Q->aX w0 χ0 T0 n s a w->c.wp P (zY w0 χ0 T0 n Q) a w
 | .skip,s,Q,a,w,_,h,ha=>wp_skip ⟨s,h,ha⟩
 | .region id ops draw,s,Q,a,w,hk,h,ha=>by
  unfold gz at hk;rw[Bool.and_eq_true] at hk;have hdst:∀ o∈ops.toList,∀ k:Nat,o.dst=some k->k<n/\k<10000:=fun o ho k hd=>by
   have:=List.all_eq_true.1 hk.1 o ho;rw[hd] at this
   simpa using this
  have:=Ia (ops:=ops.toList) (id:=id) (draw:=draw) (Q:=zY w0 χ0 T0 n Q) hχ hm (fun o ho k hd=>(hdst o ho k hd).1) (fun o ho k hd=>(hdst o ho k hd).2) (K:=fun s'=>Q .normal s') (fun s a w h ha=>⟨s,h,ha⟩) ha
   (fun hd=>by have h2:=hk.2; rw[hd] at h2; simpa using h2) h
  simpa using this
 | .seq x y,s,Q,a,w,hk,h,ha=>by
  rcases h with h | ⟨_,s',h,hQ⟩
  case inr=>exact wp_mono (h w0 χ0 T0 n a w hm hχ hlo hk hnt ha) fun e a' w' hq=>by obtain⟨rfl,hq⟩:=hq; exact⟨s',hQ,hq⟩
  unfold gz at hk;rw[Bool.and_eq_true] at hk;refine wp_seq (wp_mono (kZ hnt hm hχ hlo x s _ a w hk.1 h ha) fun e a' w' hq=>?_);cases e with
  | normal =>
   obtain⟨s',h1,h2⟩:=hq;have h1:CJ (fun s'=>gv P Γ y s' Q) s':=by
    have h1:(if Γ.js.contains (qE y) then CJ (fun s'=>gv P Γ y s' Q) s' else gv P Γ y s' Q):=h1;split at h1
    ·exact h1
    ·exact .inl h1
   rcases h1 with h1 | ⟨tms,hps,σ,h1,h3⟩
   ·exact kZ hnt hm hχ hlo y s' Q a' w' hk.2 h1 h2
   ·exact kZ hnt hm hχ hlo y _ Q a' w' hk.2 h3 (xl hχ h1 h2)
  | exit i=>exact hq
  | ret=>exact hq
  | goto l=>exact hq
  | panic c=>exact hq
  | outgrown=>exact hq
 | .cond c x y,s,Q,a,w,hk,h,ha=>by
  unfold gz at hk;rw[Bool.and_eq_true] at hk;unfold gv at h;obtain⟨hn,G,r⟩:=ha;have hv:=r.ev c;unfold CK at h;split at h
  ·rename_i t hs;rw[hs] at hv;exact wp_cond_split (lM hv) (fun ht=>kZ hnt hm hχ hlo x s Q a w hk.1 (h.1 ht) ⟨hn,G,r⟩) (fun ht=>kZ hnt hm hχ hlo y s Q a w hk.2 (h.2 ht) ⟨hn,G,r⟩)
  ·rename_i p l hs;rw[hs] at hv;obtain⟨b,hb,hl⟩:=LRd.val hv;cases p with
   | true =>
    simp only[if_true] at h;exact wp_cond_split hb (fun ht=>kZ hnt hm hχ hlo x s Q a w hk.1 (h.1 (hl ht)) ⟨hn,G,r⟩) (fun ht=>kZ hnt hm hχ hlo y s Q a w hk.2 h.2 ⟨hn,G,r⟩)
   | false =>
    simp only[Bool.false_eq_true,if_false] at h;exact wp_cond_split hb (fun ht=>kZ hnt hm hχ hlo x s Q a w hk.1 h.1 ⟨hn,G,r⟩) (fun ht=>kZ hnt hm hχ hlo y s Q a w hk.2 (h.2 (hl ht)) ⟨hn,G,r⟩)
  ·exact h.elim
 | .block id b,s,Q,a,w,hk,h,ha=>by
  unfold gz at hk;refine wp_block (wp_mono (kZ hnt hm hχ hlo b s _ a w hk h ha) fun e a' w' hq=>?_);cases e with
  | normal=>exact hq
  | exit i =>
   obtain⟨s',h1,h2⟩:=hq;have h1:(if i=id then Q .normal s' else Q (.exit i) s'):=h1;simp only[Exit.inBlock];split
   ·rename_i hi; rw[if_pos hi] at h1; exact⟨s',h1,h2⟩
   ·rename_i hi; rw[if_neg hi] at h1; exact⟨s',h1,h2⟩
  | ret=>exact hq
  | goto l=>exact hq
  | panic c=>exact hq
  | outgrown=>exact hq
 | .loop b,s,Q,a,w,hk,h,ha=>by
  unfold gz at hk;obtain⟨α,tms,hps,μ,⟨x,σ,hx⟩,hround⟩:=h;refine wp_loop_ghost (fun k a w=>∃ x,μ x=k/\aX w0 χ0 T0 n (oy (tms x) (hps x)) a w) (μ x) ⟨x,rfl,xl hχ hx ha⟩ ?_;rintro k a w ⟨x,rfl,hax⟩;refine wp_mono (kZ hnt hm hχ hlo b _ _ a w hk (hround x) hax) fun e a' w' hq=>?_;cases e with
  | normal =>
   obtain⟨s',⟨y,σ',h1,h2⟩,h3⟩:=hq;exact⟨μ y,h2,y,rfl,xl hχ h1 h3⟩
  | exit i=>exact hq
  | ret=>exact hq
  | goto l=>exact hq
  | panic c=>exact hq
  | outgrown=>exact hq
 | .exit id,s,Q,a,w,_,h,ha=>wp_exit ⟨s,h,ha⟩
 | .ret,s,Q,a,w,_,h,ha=>wp_ret ⟨s,h,ha⟩
 | .scope b,s,Q,a,w,hk,h,ha=>by
  unfold gz at hk;refine wp_scope_straight (wp_mono (kZ hnt hm hχ hlo b s Q a w hk h ha) fun e a' w' hq=>?_);cases e <;> exact hq
 | .rangeFunc g ps x y,s,Q,a,w,hk,h,ha=>by
  unfold gz at hk;simp only[Bool.and_eq_true,List.all_eq_true,decide_eq_true_eq] at hk;obtain⟨⟨⟨⟨⟨h1,h2⟩,h3⟩,h4⟩,h5⟩,h6⟩:=hk;exact Ic hχ hlo h1 h2 h3 h4 h5 (xM _ h6) h ha
 | .label _,_,_,_,_,_,h,_=>h.elim
 | .goto _,_,_,_,_,_,h,_=>h.elim
 | .refuse _,_,_,_,_,_,h,_=>h.elim
end
def vc (P:Program) (s:St):ResultVar->Option Cmp
 | .tmp t=>match s.tm t with | .c c=>some c | _=>none
 | .cell t ty=>match s.tm t with
  | .c (.v (.loc o off))=>match s.hp o,gB P ty with
   | some (.box _ cs),some n=>qm cs off n (fv P ty)
   | _,_=>none
  | _=>none
def qF (P:Program) (s:St):List ResultVar->Option (List Cmp)
 | []=>some []
 | r::rs=>match vc P s r,qF P s rs with | some c,some l=>some (c::l) | _,_=>none
def ET:Rz->List (Nat×Slot)
 | .one c=>[(0,.c c)]
 | .tup l=>l.zipIdx.map fun x=>(x.2,.c x.1)
def CN (cs:List Cmp) (hp:Hp):St:={ tm:=fun i=>match cs[i]? with | some c=>.c c | none=>.dead,hp:=hp }
def J0 (P:Program) (rs:List ResultVar) (s:St) (res:Rz) (jQ:List (Nat×cu)):Prop :=
 match qF P s rs with
 | none=>False
 | some cs=>(match res with | .one _=>True | .tup l=>l.length≠1)/\cs.length=res.eF.length/\∃ σ,Sub σ (CN cs s.hp) (ET res) jQ
section
variable {P:Program} {Γ:Opt} {s:St} {w0:World} {χ0:Col} {T0:Ctx} {n:Nat} {a:Act} {w:World} {G:Gh}
def z1 (tmps:Array Value):ResultVar->Sem Value
 | .tmp t=>pure (tmps.getD t undef)
 | .cell a t=>do loadVar t (← asAddr (tmps.getD a undef))
def oneOf:List Value->Value
 | [v]=>v
 | vs=>.tuple vs.toArray
theorem CO {vs:List Value} {fn:Func} (tmps:Array Value) (h:(fn.results.toList.mapM (z1 tmps)).run P w = .ok vs w):(results fn tmps).run P w = .ok (oneOf vs) w:=by
 have e:results fn tmps=(do let vs ← fn.results.mapM (z1 tmps); pure (if h:vs.size=1 then vs[0] else .tuple vs)):=rfl;have e2:(fn.results.mapM (z1 tmps)).run P w = .ok vs.toArray w:=by
  rw[show fn.results=fn.results.toList.toArray from (Array.toArray_toList).symm,List.mapM_toArray,Sem.run_map,h];rfl
 rw[e,Sem.run_bind,e2];simp only[Result.andThen_ok,Sem.run_pure];cases vs with
 | nil=>rfl
 | cons v vs=>cases vs <;> rfl
theorem Ie {rv:ResultVar} {c:Cmp} (r:bP w0 χ0 T0 s a w G) (h:vc P s rv=some c):∃ v,CRd G s.hp w c v/\(z1 a.tmps rv).run P w = .ok v w:=by
 cases rv with
 | tmp t =>
  have hv:=r.tms t;simp only[vc] at h;split at h
  ·rename_i c' hs;injection h with h
   subst h;rw[hs] at hv;exact⟨_,hv,rfl⟩
  ·cases h
 | cell t ty =>
  have hv:=r.tms t;simp only[vc] at h;split at h
  ·rename_i o off hs;rw[hs] at hv;split at h
   ·rename_i bt cs k ho hn;obtain⟨vs,hb,_,hall⟩:=r.gM o _ ho;obtain⟨v,g1,g2⟩:=sj (b:=G.bl o) (o2:=0) h hall hn (w4 hn) (fun j v hj=>by rw[hb.cell]; simpa using hj);have hp:a.tmps.getD t undef=ptr (G.bl o) off:=LRd.val hv;refine⟨v,g1,?_⟩;rw[Nat.zero_add] at g2
    simpa [z1,hp,ptr,asAddr,Instr.loadAt,Instr.sureAddr] using g2
   ·cases h
  ·cases h
theorem xP (r:bP w0 χ0 T0 s a w G):∀ (rs:List ResultVar) (cs:List Cmp),qF P s rs=some cs->∃ vs:List Value,dU (CRd G s.hp w) cs vs /\
  (rs.mapM (z1 a.tmps)).run P w = .ok vs w
 | [],cs,h=>by
  simp [qF] at h;subst h;exact⟨[],⟨rfl,by simp⟩,by simp⟩
 | x::rs,cs,h=>by
  unfold qF at h;split at h
  ·rename_i c l h1 h2;injection h with h
   subst h;obtain⟨v,g1,g2⟩:=Ie r h1;obtain⟨vs,g3,g4⟩:=xP r rs l h2;refine⟨v::vs,⟨by simp [g3.1],fun i a b ha hb=>?_⟩,?_⟩
   ·cases i with
    | zero=>simp at ha hb; subst ha hb; exact g1
    | succ i=>exact g3.2 i a b (by simpa using ha) (by simpa using hb)
   ·rw[List.mapM_cons];simp only[Sem.run_bind,g2,Result.andThen_ok,g4,Sem.run_pure]
  ·cases h
def Rk (P:Program) (rs:List ResultVar) (res:Rz) (jQ:List (Nat×cu)):AEx->St->Prop
 | .exit _,_=>False
 | _,s=>J0 P rs s res jQ
def qG:Nat->List Slot->List (Nat×Slot)
 | _,[]=>[]
 | i,x::r=>(i,x)::qG (i+1) r
def st0 (S:ra):St:=oy (qG 0 S.args) S.hps
theorem vZ:∀ (args:List Slot) (i t:Nat),ae (qG i args) t=if i<=t then args[t-i]? else none
 | [],i,t=>by simp [qG,ae]
 | x::r,i,t=>by
  simp only[qG,ae];by_cases h:t=i
  ·subst h; simp
  ·rw[if_neg h,vZ r (i+1) t];by_cases h2:i<=t
   ·rw[if_pos (by omega),if_pos h2];have:t-i=(t-(i+1))+1:=by omega
    rw[this,List.getElem?_cons_succ]
   ·rw[if_neg (by omega),if_neg h2]
theorem EU {res:Rz} {i:Nat} {c:Cmp} (h:res.eF[i]?=some c):(i,Slot.c c)∈ET res:=by
 cases res with
 | one c' =>
  cases i with
  | zero=>simp [Rz.eF] at h; subst h; simp [ET]
  | succ i=>simp [Rz.eF] at h
 | tup l=>exact List.mem_map.2 ⟨(c,i),List.mem_zipIdx_iff_getElem?.2 h,rfl⟩
theorem ug {fn:Func} {R:Ending->World->Prop} {tmps:Array Value} {m:Nat} (hlo:w0.heap.size<=T0.lo) (hR:∀ w',bP w0 χ0 T0 s { tmps:=tmps,defers:=[] } w' G->∃ v,(results fn tmps).run P w' = .ok v w'/\R (.returned v) w') :
  ∀ (ds:List Deferred) (w':World),bP w0 χ0 T0 s { tmps:=tmps,defers:=ds } w' G->LeavesInM Fence.wide m P fn tmps R ds .returning w'
 | [],w',r=>hR w' r
 | d::ds,w',r=>by
  obtain⟨D,rfl,h2,h3,h4,h5⟩:=r.defers.2 d List.mem_cons_self;have hn:=List.nodup_cons.1 r.defers.1;have r':bP w0 χ0 T0 s { tmps:=tmps,defers:=ds } w' G:=⟨r.os,r.tape,r.output,r.size,r.old,r.col,r.own,r.pin,r.norm,⟨hn.2,fun d hd=>r.defers.2 d (List.mem_cons_of_mem _ hd)⟩,r.tms,r.gM,r.w5⟩;exact⟨by simp,.inl ⟨D,_,rfl,run_takeDeferred h5,ug hlo hR ds _ (r'.Ib (Nat.le_trans hlo h2) h4 fun d hd e=>hn.1 (e ▸ hd))⟩⟩
theorem zj {f:FuncId} {fn:Func} {c:Code} {S:ra} (hnt:Γ.nt=fn.ntmps) (hm:P.follows .mixedOrders=true) (hf:P.funcs[f]?=some fn) (hb:fn.body=some c) (hk:gz Γ fn.ntmps c=true) (hn:S.args.length<=fn.ntmps)
  (h:gv P Γ c (st0 S) (Rk P fn.results.toList S.res S.jQ)):gS P f S:=by
 intro w G0 vs hnorm hglob hargs hobjs;refine (callsIn_wide (n:=0)).1 (callsIn_of_wp_marks hf hb trivial (wpIn_wide.2 ?_));have hlen:vs.length=S.args.length:=hargs.1.symm
 let χ0:Col:=fun b=>if G0.χ b<=1 then G0.χ b else 0
 let T0:Ctx:=⟨fun b=>2<=G0.χ b,G0.bl,G0.hv,w.heap.size⟩
 have hχ:∀ b,χ0 b<=1:=fun b=>by
  show (if G0.χ b<=1 then G0.χ b else 0)<=1;split <;> omega
 have hrep:aX w χ0 T0 fn.ntmps (st0 S) { tmps:=vs.toArray++Array.replicate (fn.ntmps-vs.toArray.size) undef,defers:=[] } w:=by
  refine⟨by simp; omega,G0,rfl,rfl,rfl,Nat.le_refl _,fun _ _ _=>rfl,fun b _ hT=>?_,fun b hb=>.inl hb,fun o _=>⟨rfl,rfl⟩,hnorm,oo.nil,fun t=>?_,hobjs,fun g h=>?_,fun g h h2=>?_⟩
  ·have hT:¬ 2<=G0.χ b:=hT;exact (if_pos (by omega)).symm
  ·show SRd G0 _ w ((ae (qG 0 S.args) t).getD .dead) _;rw[vZ,if_pos (Nat.zero_le _),Nat.sub_zero];cases ht:S.args[t]? with
   | none=>trivial
   | some x =>
    obtain⟨v,hv,hr⟩:=hargs.get ht;have hlt:t<vs.length:=(List.getElem?_eq_some_iff.1 hv).1;have e:(vs.toArray++Array.replicate (fn.ntmps-vs.toArray.size) undef).getD t undef=v:=by
     rw[Array.getD_eq_getD_getElem?,Array.getElem?_append_left (by simpa using hlt)];simp [hv]
    rw[e]; exact hr
  ·obtain⟨h1,h2⟩:=hglob g h;exact⟨(if_pos (by omega)).trans h1,h2⟩
  ·have h2:2<=G0.χ g:=h2;have:=(hglob g h).1;omega
 have hwp:=kZ hnt hm hχ (Nat.le_refl _) c (st0 S) _ _ w hk h hrep;have fin:∀ (s:St) (a:Act) (w':World),J0 P fn.results.toList s S.res S.jQ->aX w χ0 T0 fn.ntmps s a w' ->
   LeavesInM Fence.wide 0 P fn a.tmps (fun e w'=>∃ (G':Gh) (v':Value) (us:List Value),e = .returned v'/\S.res.val v' us/\w'.os=w.os/\w'.tape=w.tape/\w'.output=w.output/\w.heap.size<=w'.heap.size /\
   (∀ b,b<w.heap.size->G0.χ b<=1->w'.heap[b]?=w.heap[b]?/\G'.χ b=G0.χ b)/\(∀ b,2<=G'.χ b->2<=G0.χ b\/w.heap.size<=b)/\(∀ o,1000000<=o->G'.bl o=G0.bl o/\G'.hv o=G0.hv o)/\Norm G'.χ w' /\
   dU (CRd G' (hpL S.jQ) w') S.res.eF us/\(∀ o h,hpL S.jQ o=some h->HRd G' (hpL S.jQ) w' o h)) a.defers .returning w':=by
  intro s a w' hret ⟨_,G',r⟩;refine ug (Nat.le_refl _) (fun w' r=>?_) a.defers w' r;unfold J0 at hret;split at hret
  ·exact hret.elim
  ·rename_i cs hcs;obtain⟨hsh,hcl,σ,⟨⟨hσ,hv0,hp0,hpins⟩,ht,hh⟩⟩:=hret;obtain⟨us,hus,hrun⟩:=xP r _ _ hcs;have hobj':∀ o h,(CN cs s.hp).hp o=some h->HRd G' (CN cs s.hp).hp w' o h:=r.gM;have key:∀ o2,1000000<=o2->∀ o,ae (σ.m.map fun x=>(x.2,x.1)) o2=some o->o=o2:=fun o2 ho2 o hl=>by
    obtain⟨x,hx,he⟩:=List.mem_map.1 (cx hl);injection he with e1 e2
    have:=fP hpins x hx (by omega);omega
   refine⟨_,CO a.tmps hrun,dR σ G',_,us,rfl,?_,r.os,r.tape,r.output,r.size,fun b hb h1=>?_,fun b hb=>?_,fun o ho=>?_,fun b hb=>ky (r.norm b hb),?_,fun o h ho=>?_⟩
   ·cases hrs:S.res with
    | one c' =>
     rw[hrs] at hcl;have:us.length=1:=by rw[← hus.1,hcl]; rfl
     cases us with
     | nil=>simp at this
     | cons u us=>cases us with
      | nil=>rfl
      | cons _ _=>simp at this
    | tup l =>
     rw[hrs] at hsh hcl;have hl:us.length≠1:=by rw[← hus.1,hcl]; exact hsh
     cases us with
     | nil=>rfl
     | cons u us=>cases us with
      | nil=>simp at hl
      | cons _ _=>rfl
   ·have hT:¬ T0.T b:=fun h=>by have h:2<=G0.χ b:=h; omega
    refine⟨r.old b hb hT,?_⟩;have h2:G'.χ b=G0.χ b:=(r.col b hb hT).trans (if_pos h1);exact (if_pos (by omega)).trans h2
   ·exact r.own b (Ew hb).1
   ·constructor
    ·show (match ae (σ.m.map fun x=>(x.2,x.1)) o with | some o=>G'.bl o | none=>if σ.pin=true/\1000000<=o then G'.bl o else 0)=_;cases hl:ae (σ.m.map fun x=>(x.2,x.1)) o with
     | some o'=>rw[key o ho o' hl]; exact (r.pin o ho).1
     | none=>exact (if_pos ⟨hp0,ho⟩).trans (r.pin o ho).1
    ·show (match ae (σ.m.map fun x=>(x.2,x.1)) o with | some o=>G'.hv o | none=>if σ.pin=true/\1000000<=o then G'.hv o else .slice none 0 0)=_;cases hl:ae (σ.m.map fun x=>(x.2,x.1)) o with
     | some o'=>rw[key o ho o' hl]; exact (r.pin o ho).2
     | none=>exact (if_pos ⟨hp0,ho⟩).trans (r.pin o ho).2
   ·refine⟨by rw[← hcl]; exact hus.1,fun i c' u hc' hu=>?_⟩;have h1:=fP ht _ (EU hc');have hi:i<cs.length:=by rw[hcl]; exact (List.getElem?_eq_some_iff.1 hc').1
    have h2:(CN cs s.hp).tm i = .c cs[i]:=by
     show (match cs[i]? with | some c=>Slot.c c | none=>.dead)=_;rw[List.getElem?_eq_getElem hi]
    dsimp only at h1;rw[h2] at h1;exact Ba hσ hobj' (hus.2 i _ u (List.getElem?_eq_getElem hi) hu) h1
   ·exact Bb (q:=(o,h)) hσ hobj' (fP hh _ (cx ho))
 refine wp_mono hwp fun e a w' hq=>?_;cases e with
 | normal=>obtain⟨s,h1,h2⟩:=hq; exact fin s a w' h1 h2
 | ret=>obtain⟨s,h1,h2⟩:=hq; exact fin s a w' h1 h2
 | exit i=>obtain⟨s,h1,h2⟩:=hq; exact h1.elim
 | goto l=>exact hq.elim
 | panic ch=>exact hq.elim
 | outgrown=>exact hq.elim
end
end Go.Lad
namespace Go.Lad
open Go.RowKit
section
variable {P:Program} {Γ:Opt} {s s':St} {Q:AEx->St->Prop} {K:St->Prop}
theorem tr {o:Oper} {K K':Eff->Prop} (hK:∀ e,K e->K' e) (h:rf P Γ s o K):rf P Γ s o K':=by
 unfold rf at h ⊢;split at h
 ·obtain⟨e,h1,h2,h3⟩:=h; exact⟨e,h1,h2,hK e h3⟩
 ·split at h
  ·exact⟨h.1,h.2.1,hK _ h.2.2⟩
  ·exact h.elim
theorem EV {o:Oper} {K K':St->Prop} (hK:∀ s,K s->K' s) (h:tY Γ o s K):tY Γ o s K':=by
 unfold tY at h ⊢;split at h
 ·rename_i hv;rw[if_pos hv];rcases h with h | ⟨tms,hps,σ,h1,h2⟩
  ·exact .inl (hK _ h)
  ·exact .inr ⟨tms,hps,σ,h1,hK _ h2⟩
 ·rename_i hv;rw[if_neg hv];exact hK _ h
theorem p5 {ops:List Oper} {K':St->Prop} (hK:∀ s,K s->K' s):∀ (l:List Oper) (s:St),qz P Γ ops l s K->qz P Γ ops l s K'
 | [],s,h=>hK s h
 | o::rest,s,h=>by
  unfold qz at h ⊢;refine EV (fun s h=>?_) h;split at h <;> rename_i hg
  ·exact tr (fun e h=>p5 hK rest _ h) h
  ·split at h <;> rename_i he
   ·exact⟨fun hc=>tr (fun e h=>p5 hK rest _ h) (h.1 hc),fun hc=>p5 hK rest _ (h.2 hc)⟩
   ·exact p5 hK rest _ h
   ·exact h
theorem fy:∀ (c:Code) {s:St} {Q Q':AEx->St->Prop},(∀ e s,Q e s->Q' e s)->gv P Γ c s Q->gv P Γ c s Q'
 | .skip,s,Q,Q',hq,h=>hq _ _ h
 | .region _ ops _,s,Q,Q',hq,h=>p5 (fun s h=>hq _ s h) _ _ h
 | .seq a b,s,Q,Q',hq,h=>h.elim (fun h=>.inl (fy a (Q':=Gd (oW Γ.js b fun s'=>gv P Γ b s' Q') Q') (fun e s h=>by
   cases e with
   | normal =>
    have h:oW Γ.js b (fun s'=>gv P Γ b s' Q) s:=h;show oW Γ.js b (fun s'=>gv P Γ b s' Q') s;unfold oW at h ⊢;split at h <;> rename_i hj
    ·rw[if_pos hj];rcases h with h | ⟨tms,hps,σ,h1,h⟩
     ·exact .inl (fy b hq h)
     ·exact .inr ⟨tms,hps,σ,h1,fy b hq h⟩
    ·rw[if_neg hj];exact fy b hq h
   | exit i=>exact hq _ _ h
   | ret=>exact hq _ _ h) h)) fun h=>.inr ⟨h.1,h.2.elim fun s' h=>⟨s',h.1,hq _ _ h.2⟩⟩
 | .cond c a b,s,Q,Q',hq,h=>by
  unfold gv at h ⊢;unfold CK at h ⊢;split at h
  ·exact⟨fun ht=>fy a hq (h.1 ht),fun ht=>fy b hq (h.2 ht)⟩
  ·split at h
   ·rename_i hp; rw[if_pos hp]; exact⟨fun ht=>fy a hq (h.1 ht),fy b hq h.2⟩
   ·rename_i hp; rw[if_neg hp]; exact⟨fy a hq h.1,fun ht=>fy b hq (h.2 ht)⟩
  ·exact h.elim
 | .block id b,s,Q,Q',hq,h=>fy b (Q':=JW id Q') (fun e s h=>by
   cases e with
   | normal=>exact hq _ _ h
   | exit i =>
    have h:(if i=id then Q .normal s else Q (.exit i) s):=h;show (if i=id then Q' .normal s else Q' (.exit i) s);split
    ·rename_i hi; rw[if_pos hi] at h; exact hq _ _ h
    ·rename_i hi; rw[if_neg hi] at h; exact hq _ _ h
   | ret=>exact hq _ _ h) h
 | .loop b,s,Q,Q',hq,h=>by
  obtain⟨α,tms,hps,μ,h0,hr⟩:=h;refine⟨α,tms,hps,μ,h0,fun x=>fy b (fun e s h=>?_) (hr x)⟩;cases e with
  | normal=>exact h
  | exit i=>exact hq _ _ h
  | ret=>exact hq _ _ h
 | .exit id,s,Q,Q',hq,h=>hq _ _ h
 | .ret,s,Q,Q',hq,h=>hq _ _ h
 | .scope b,s,Q,Q',hq,h=>fy b hq h
 | .rangeFunc g ps x y,s,Q,Q',hq,h=>by
  obtain⟨tg,gf,os,xs,cs,α,R,tms,H,h1,h2,h3,h4,h4b,h5,h6,h6b,h7,h8,h9,h10⟩:=h;refine⟨tg,gf,os,xs,cs,α,R,tms,H,h1,h2,h3,h4,h4b,h5,h6,h6b,h7,h8,fun k hk z hz=>fy x (fun e s h=>?_) (h9 k hk z hz),fun z hz=>hq _ _ (h10 z hz)⟩;cases e with
  | normal =>
   refine fy y (fun e s h=>?_) h;cases e with
   | normal=>exact h
   | exit i=>exact hq _ _ h
   | ret=>exact hq _ _ h
  | exit i=>exact h
  | ret=>exact h
 | .label _,_,_,_,_,h=>h.elim
 | .goto _,_,_,_,_,h=>h.elim
 | .refuse _,_,_,_,_,h=>h.elim
end
def iterM {α β:Type} (body:α->Option (α⊕β)):Nat->α->Option β
 | 0,_=>none
 | n+1,x=>match body x with
  | some (.inl y)=>iterM body n y
  | some (.inr b)=>some b
  | none=>none
open Classical in
noncomputable def Ge {α β:Type} (body:α->Option (α⊕β)) (x:α):Option β :=
 if h:∃ n r,iterM body n x=some r then some (Classical.choose (Classical.choose_spec h)) else none
theorem rL {α β:Type} {body:α->Option (α⊕β)}:∀ {n m:Nat} {x:α} {r:β},n<=m->iterM body n x=some r->iterM body m x=some r
 | 0,_,_,_,_,h=>by cases h
 | n+1,0,_,_,hm,_=>by omega
 | n+1,m+1,x,r,hm,h=>by
  unfold iterM at h ⊢;split at h
  ·exact rL (by omega) h
  ·exact h
  ·cases h
theorem iterM_eq {α β:Type} {body:α->Option (α⊕β)} {n m:Nat} {x:α} {r r':β} (h:iterM body n x=some r) (h':iterM body m x=some r'):r=r':=by
 have h1:=rL (Nat.le_max_left n m) h;have h2:=rL (Nat.le_max_right n m) h';rw[h1] at h2;injection h2
theorem xQ {α β:Type} {body:α->Option (α⊕β)} {x:α} {r:β}:Ge body x=some r↔∃ n,iterM body n x=some r:=by
 unfold Ge;constructor
 ·intro h;split at h
  ·rename_i hh;injection h with h
   exact⟨_,h ▸ Classical.choose_spec (Classical.choose_spec hh)⟩
  ·cases h
 ·rintro⟨n,h⟩;have hh:∃ n r,iterM body n x=some r:=⟨n,r,h⟩;rw[dif_pos hh];exact congrArg some (iterM_eq (Classical.choose_spec (Classical.choose_spec hh)) h)
def J1 {α:Type} (tms:α->List (Nat×Slot)) (hps:α->List (Nat×cu)) (R:α->Prop) (Q:AEx->St->Prop):AEx->St->Prop
 | .normal,s=>∃ y σ,R y/\Sub σ s (tms y) (hps y)
 | e,s=>Q e s
theorem Pu {P:Program} {Γ:Opt} {s:St} {Q:AEx->St->Prop} {b:Code} {α β:Type} (body:α->Option (α⊕β)) (tms:α->List (Nat×Slot)) (hps:α->List (Nat×cu)) (x:α) (e:β) (hx:Ge body x=some e) (σ:Ren) (h0:Sub σ s (tms x) (hps x))
  (h:∀ x o,body x=some o->(∀ b,o = .inr b->b=e)->gv P Γ b (oy (tms x) (hps x)) (J1 tms hps (fun y=>o = .inl y) Q)):gv P Γ (.loop b) s Q:=by
 obtain⟨n,hn⟩:=xQ.1 hx;refine⟨{p:α×Nat // iterM body p.2 p.1=some e},fun p=>tms p.1.1,fun p=>hps p.1.1,fun p=>p.1.2,⟨⟨(x,n),hn⟩,σ,h0⟩,?_⟩;rintro⟨⟨x,n⟩,hn⟩;dsimp only at hn ⊢;cases n with
 | zero=>cases hn
 | succ n =>
  unfold iterM at hn;cases hb:body x with
  | none=>rw[hb] at hn; cases hn
  | some o =>
   rw[hb] at hn;have:=h x o hb (fun b hb'=>by subst hb'; injection hn);refine fy b ?_ this;intro e' s' hq;cases e' with
   | normal =>
    obtain⟨y,σ,hy,h1⟩:=(show ∃ y σ,o = .inl y/\Sub σ s' (tms y) (hps y) from hq);subst hy;exact⟨⟨(y,n),hn⟩,σ,h1,Nat.lt_succ_self n⟩
   | exit i=>exact hq
   | ret=>exact hq
theorem M0 {n:Int}:inK .i64 n=(-9223372036854775808<=n/\n<=9223372036854775807):=by
 simp [inK,IntKind.min,IntKind.max,IntKind.signed,IntKind.bits]
end Go.Lad
