import Derived.Test.YtkpefpjpadahiaaGreatDoorAb8
namespace Go.Lad
set_option linter.unusedVariables false
set_option linter.unusedSimpArgs false
open Go.RowKit
theorem Rd.of_flat {F F':Nat->Prop} {w w':World} {p:PV} {v:Value} (h:Rd F w p v) (hf:p.flat=true):Rd F' w' p v:=by
 cases h with
 | int h=>exact .int h
 | bool=>exact .bool
 | str h=>exact .str h
 | oth h=>exact .oth h
 | sl0 h hm=>cases hf
 | sl us h0 hF hb hc hm hz hcell hrd=>cases hf
 | mp mv _ _ _ _=>cases hf
theorem mz (hp:Hp):∀ (l:List (Nat×df)) (j:Nat),hp j≠none->eM hp l j≠none
 | [],j,h=>h
 | x::l,j,h=>mz (upd hp x.1 (some x.2)) l j (by
   by_cases e:j=x.1
   ·rw[e]; simp [upd]
   ·simp [upd,e]; exact h)
theorem Au (hp:Hp):∀ (l:List (Nat×df)) (j:Nat),(∃ h,(j,h)∈l)->eM hp l j≠none
 | [],j,⟨h,e⟩=>by cases e
 | x::l,j,⟨h,e⟩=>by
  rcases List.mem_cons.1 e with e | e
  ·exact mz _ l j (by rw[← e]; simp [upd])
  ·exact Au _ l j ⟨h,e⟩
theorem Own.o8 {z k k':Nat} {χ χ':Col} {e:TypeId} {w:World} {v:Value} {l:List (List PV)} (h:Own (α:=CZ z) k χ e w v l) (hc:∀ g,v.ownBlock=some g->g<w.heap.size->χ g=k->χ' g=k')
  (hf:(∀ b,b<w.heap.size->χ b=0->χ' b=0)\/(∀ row∈l,∀ p∈row,p.flat=true)):Own (α:=CZ z) k' χ' e w v l:=by
 obtain⟨⟨xs,h1,h2⟩,h3⟩:=h;refine⟨⟨xs,h1,fun i x hx=>?_⟩,fun g hg=>hc g hg (h1.lt g hg).2 (h3 g hg)⟩;obtain⟨q1,q2,q3⟩:=h2 i x hx;refine⟨q1,q2,fun j p u hp hu=>?_⟩;rcases hf with hf | hf
 ·exact Rd.frame (fun b hb hl=>⟨hf b hl hb,rfl⟩) (q3 j p u hp hu)
 ·exact Rd.of_flat (q3 j p u hp hu) (hf x (List.mem_of_getElem? hx) p (List.mem_of_getElem? hp))
def aq {α:Type}:List (Nat×α)->Nat->Option α
 | [],_=>none
 | x::r,k=>if k=x.1 then some x.2 else aq r k
theorem dD {α:Type}:∀ {l:List (Nat×α)} {k:Nat} {v:α},aq l k=some v->(k,v)∈l
 | [],_,_,h=>by cases h
 | x::r,k,v,h=>by
  unfold aq at h;split at h
  ·rename_i e;injection h with h
   subst h e;exact List.mem_cons_self
  ·exact List.mem_cons_of_mem _ (dD h)
def qH (tms:List (Nat×Slot)) (hps:List (Nat×df)):St:={ tm:=fun t=>(aq tms t).getD .dead,hp:=fun o=>aq hps o }
structure Ren where
 m:List (Nat×Nat)
 v:Option (List Nat):=none
 pin:Bool:=true
def Ren.nodup (σ:Ren):Prop:=(σ.m.map (·.1)).Nodup/\(σ.m.map (·.2)).Nodup
def Ren.may (σ:Ren) (o:Nat):Prop:=match σ.v with | none=>True | some l=>o∈l
def Ren.low (σ:Ren) (o:Nat):Prop:=σ.pin=true->o<1000000
def pM (σ:Ren) (hps:List (Nat×df)):List Nat->List Nat->Prop
 | [],[]=>True
 | x::xs,y::ys=>((x,y)∈σ.m/\aq hps y≠none)/\pM σ hps xs ys
 | _,_=>False
def ky (σ:Ren) (s:St):aJ->PV->Prop
 | .p a,b=>a=b
 | .nil,.sl l=>l=[]
 | .own o,.sl l=>(match s.hp o with | some (.arr _ _ l2)=>l2=l | _=>False)/\o∉σ.m.map (·.1)/\σ.may o
 | .mp o,.mp k m=>(match s.hp o with | some (.kV k2 _ _ m2 none)=>k2=k/\m2=m | _=>False)/\o∉σ.m.map (·.1)/\σ.may o
 | _,_=>False
def kJ (σ:Ren) (s:St):List aJ->List PV->Prop
 | [],[]=>True
 | x::xs,y::ys=>ky σ s x y/\kJ σ s xs ys
 | _,_=>False
def vb (σ:Ren) (s:St):List aJ->List (List PV)->Prop
 | [],[]=>True
 | x::xs,y::ys=>(match y with | [p]=>ky σ s x p | _=>False)/\vb σ s xs ys
 | _,_=>False
def nu (σ:Ren) (s:St) (hps:List (Nat×df)):aJ->aJ->Prop
 | _,.dead=>True
 | .p a,.p b=>a=b
 | .nil,.nil=>True
 | .nil,.p (.sl l)=>l=[]
 | .own o,.p (.sl l)=>(match s.hp o with | some (.arr _ _ l2)=>l2=l | some (.lit _ cs)=>vb σ s cs l | _=>False)/\o∉σ.m.map (·.1)/\σ.may o
 | .sv o a b z,.p (.sl l)=>0<z/\(match s.hp o with | some (.arr _ z' l2)=>z=z'/\b<=l2.length/\(l2.take b).drop a=l | _=>False)/\o∉σ.m.map (·.1)/\σ.may o
 | .own o,.own o2=>(o,o2)∈σ.m/\aq hps o2≠none
 | .sv o a b z,.sv o2 a2 b2 z2=>((o,o2)∈σ.m/\aq hps o2≠none)/\a=a2/\b=b2/\z=z2
 | .nil,.own o2=>o2∉σ.m.map (·.2)/\aq hps o2≠none/\σ.low o2
 | .loc o f,.loc o2 f2=>((o,o2)∈σ.m/\aq hps o2≠none)/\f=f2
 | .el o i f z,.el o2 i2 f2 z2=>((o,o2)∈σ.m/\aq hps o2≠none)/\i=i2/\f=f2/\z=z2
 | .ip c f,.ip c2 f2=>c=c2/\f=f2
 | .fn f caps,.fn f2 caps2=>f=f2/\pM σ hps caps caps2
 | .mp o,.mp o2=>(o,o2)∈σ.m/\aq hps o2≠none
 | .nb p l,.nb p2 l2=>p=p2/\l=l2
 | .ps o,.ps o2=>(o,o2)∈σ.m/\aq hps o2≠none
 | .loc o f,.ps o2=>((o,o2)∈σ.m/\aq hps o2≠none)/\f=0
 | .p (.oth (.pointer none)),.ps o2=>aq hps o2≠none
 | .tl l,.tl l2=>l=l2
 | .tl l,.p (.sl l2)=>l=l2
 | .mp o,.p (.mp k m)=>ky σ s (.mp o) (.mp k m)
 | .loc o f,.ip cs f2=>f=f2/\(match s.hp o with | some (.box _ xs)=>kJ σ s xs cs | _=>False)/\o∉σ.m.map (·.1)/\σ.may o
 | _,_=>False
def kz (σ:Ren) (s:St) (hps:List (Nat×df)):List aJ->List aJ->Prop
 | [],[]=>True
 | x::xs,y::ys=>nu σ s hps x y/\kz σ s hps xs ys
 | _,_=>False
def sF (σ:Ren) (s:St) (hps:List (Nat×df)):Cmp->Cmp->Prop
 | .v x,.v y=>nu σ s hps x y
 | .g xs,.g ys=>kz σ s hps xs ys
 | _,_=>False
def qv (σ:Ren) (s:St) (hps:List (Nat×df)):List Cmp->List Cmp->Prop
 | [],[]=>True
 | x::xs,y::ys=>sF σ s hps x y/\qv σ s hps xs ys
 | _,_=>False
def o9 (σ:Ren) (s:St) (hps:List (Nat×df)):Slot->Slot->Prop
 | _,.dead=>True
 | .c x,.c y=>sF σ s hps x y
 | .t xs,.t ys=>qv σ s hps xs ys
 | _,_=>False
def yL (σ:Ren) (s:St) (hps:List (Nat×df)):Option df->df->Prop
 | _,.gone=>True
 | some (.box t cs),.box t2 cs2=>t=t2/\kz σ s hps cs cs2
 | some (.arr e z l),.arr e2 z2 l2=>e=e2/\z=z2/\l=l2
 | some (.fO k g m),.fO k2 g2 m2=>k=k2/\g=g2/\m=m2
 | some (.fa g m),.fa g2 m2=>g=g2/\m=m2
 | some (.fb k g m),.fb k2 g2 m2=>k=k2/\g=g2/\m=m2
 | some (.ql k g m key d),.ql k2 g2 m2 key2 d2=>k=k2/\g=g2/\m=m2/\key=key2/\(d,d2)∈σ.m/\aq hps d2≠none
 | some (.kV k e z m h),.kV k2 e2 z2 m2 h2=>k=k2/\e=e2/\z=z2/\m=m2/\h=h2
 | some (.lit e cs),.lit e2 cs2=>e=e2/\kz σ s hps cs cs2
 | _,_=>False
def Av:df->Prop
 | .arr _ _ l=>l=[]
 | _=>False
def HSub (σ:Ren) (s:St) (hps:List (Nat×df)) (q:Nat×df):Prop :=
 match aq (σ.m.map fun x=>(x.2,x.1)) q.1 with
 | some o=>yL σ s hps (s.hp o) q.2
 | none=>(Av q.2/\σ.low q.1)\/q.2 = .gone
def nj {α:Type} (p:α->Prop):List α->Prop
 | []=>True
 | x::r=>p x/\nj p r
theorem fv {α:Type} {p:α->Prop}:∀ {l:List α},nj p l->∀ x∈l,p x
 | [],_,x,hx=>by cases hx
 | y::l,h,x,hx=>by
  rcases List.mem_cons.1 hx with rfl | hx
  ·exact h.1
  ·exact fv h.2 x hx
def Sub (σ:Ren) (s:St) (tms:List (Nat×Slot)) (hps:List (Nat×df)):Prop :=
 (σ.nodup/\σ.v=none/\σ.pin=true/\nj (fun x=>1000000<=x.2->x.1=x.2) σ.m)/\nj (fun p=>o9 σ s hps (s.tm p.1) p.2) tms/\nj (HSub σ s hps) hps
section
variable {P:Program} {s:St} {w0:World} {χ0:Col} {T0:Ctx} {n:Nat} {a:Act} {w:World} {G:Gh} {σ:Ren} {tms:List (Nat×Slot)} {hps:List (Nat×df)}
theorem dw {α:Type}:∀ {l:List (Nat×α)} {k:Nat} {v:α},(l.map (·.1)).Nodup->(k,v)∈l->aq l k=some v
 | [],_,_,_,h=>by cases h
 | x::r,k,v,hn,h=>by
  rw[List.map_cons,List.nodup_cons] at hn;unfold aq;rcases List.mem_cons.1 h with h | h
  ·rw[← h]; simp
  ·rw[if_neg,dw hn.2 h];intro e;exact hn.1 (List.mem_map.2 ⟨(k,v),h,e⟩)
theorem mA {α:Type}:∀ {l:List (Nat×α)} {k:Nat},k∉l.map (·.1)->aq l k=none
 | [],_,_=>rfl
 | x::r,k,h=>by
  unfold aq;rw[List.map_cons,List.mem_cons,not_or] at h;rw[if_neg h.1,mA h.2]
def eB (σ : Ren) (G : Gh) : Gh :=
  { χ := fun b => if G.χ b<=1 then G.χ b else match aq σ.m (G.χ b-2) with | some o2 => o2+2 | none => (match σ.v with | none => 0 | some l => if G.χ b-2∈l then 0 else 1),
    bl := fun o2 => match aq (σ.m.map fun x => (x.2, x.1)) o2 with | some o => G.bl o | none => if σ.pin=true/\1000000<=o2 then G.bl o2 else 0,
    hv := fun o2 => match aq (σ.m.map fun x => (x.2, x.1)) o2 with | some o => G.hv o | none => if σ.pin=true/\1000000<=o2 then G.hv o2 else .slice none 0 0 }
theorem jj {b:Nat} (h:G.χ b=0):(eB σ G).χ b=0:=by
 show (if G.χ b<=1 then G.χ b else _)=0;rw[if_pos (by omega)]; exact h
theorem pa (hσ:σ.nodup) {o o2:Nat} (h:(o,o2)∈σ.m):aq σ.m o=some o2/\aq (σ.m.map fun x=>(x.2,x.1)) o2=some o:=by
 refine⟨dw hσ.1 h,dw ?_ (List.mem_map.2 ⟨(o,o2),h,rfl⟩)⟩;rw[List.map_map]; exact hσ.2
theorem mb (hσ:σ.nodup) {o o2 b:Nat} (h:(o,o2)∈σ.m) (hb:G.χ b=o+2):(eB σ G).χ b=o2+2:=by
 show (if G.χ b<=1 then G.χ b else match aq σ.m (G.χ b-2) with | some o2=>o2+2 | none=>(match σ.v with | none=>0 | some l=>if G.χ b-2∈l then 0 else 1))=o2+2;rw[if_neg (by omega),hb,Nat.add_sub_cancel,(pa hσ h).1]
theorem gO (hσ:σ.nodup) {o o2:Nat} (h:(o,o2)∈σ.m):(eB σ G).bl o2=G.bl o:=by
 show (match aq (σ.m.map fun x=>(x.2,x.1)) o2 with | some o=>G.bl o | none=>_)=_;rw[(pa hσ h).2]
theorem pb (hσ:σ.nodup) {o o2:Nat} (h:(o,o2)∈σ.m):(eB σ G).hv o2=G.hv o:=by
 show (match aq (σ.m.map fun x=>(x.2,x.1)) o2 with | some o=>G.hv o | none=>_)=_;rw[(pa hσ h).2]
theorem Ea {o2:Nat} (h:o2∉σ.m.map (·.2)) (hl:σ.low o2):(eB σ G).hv o2 = .slice none 0 0:=by
 show (match aq (σ.m.map fun x=>(x.2,x.1)) o2 with | some o=>G.hv o | none=>if σ.pin=true/\1000000<=o2 then G.hv o2 else .slice none 0 0)=_;rw[mA (by rw[List.map_map]; exact h)];exact if_neg fun hc=>by have:=hl hc.1; omega
theorem pN {o b:Nat} (ho:o∉σ.m.map (·.1)) (hm:σ.may o) (hb:G.χ b=o+2):(eB σ G).χ b=0:=by
 show (if G.χ b<=1 then G.χ b else match aq σ.m (G.χ b-2) with | some o2=>o2+2 | none=>(match σ.v with | none=>0 | some l=>if G.χ b-2∈l then 0 else 1))=0;rw[if_neg (by omega),hb,Nat.add_sub_cancel,mA ho];unfold Ren.may at hm;cases hv:σ.v with
 | none=>rfl
 | some l=>rw[hv] at hm; exact if_pos hm
theorem CH {b:Nat} (h:2<=(eB σ G).χ b):2<=G.χ b/\aq σ.m (G.χ b-2)≠none:=by
 have h:2<=(if G.χ b<=1 then G.χ b else match aq σ.m (G.χ b-2) with | some o2=>o2+2 | none=>(match σ.v with | none=>0 | some l=>if G.χ b-2∈l then 0 else 1)):=h;split at h
 ·omega
 ·refine⟨by omega,fun hn=>?_⟩;rw[hn] at h;dsimp only at h;split at h
  ·omega
  ·split at h <;> omega
theorem nv:∀ b,In G.χ 0 b->b<w.heap.size->In (eB σ G).χ 0 b/\w.heap[b]?=w.heap[b]? := fun b hb _=>⟨jj hb,rfl⟩
theorem vc (hσ:σ.nodup):∀ {xs ys:List Nat},pM σ hps xs ys->(∀ o∈ys,aq hps o≠none)/\xs.map (fun o=>ptr (G.bl o) 0)=ys.map (fun o=>ptr ((eB σ G).bl o) 0)
 | [],[],_=>⟨by simp,rfl⟩
 | [],_::_,h=>h.elim
 | _::_,[],h=>h.elim
 | x::xs,y::ys,h=>by
  have ih:=vc hσ h.2;refine⟨fun o ho=>?_,?_⟩
  ·rcases List.mem_cons.1 ho with rfl | ho
   ·exact h.1.2
   ·exact ih.1 o ho
  ·rw[List.map_cons,List.map_cons,ih.2,gO hσ h.1.1]
theorem CI {k z:Nat} {χ:Col} {e:TypeId} {v:Value} {l:List (List PV)} (hown:Own (α:=CZ z) k χ e w v l):Rd (fun b=>χ b=k\/χ b=0) w (.sl l) v:=by
 obtain⟨A,c,hv,hs⟩:=hown.sl;rw[hv];refine Rd.uK hs (.inr fun b off hA=>?_);obtain⟨⟨xs,h1,_⟩,h3⟩:=hown;rcases h1.2 with⟨h4,_⟩ | ⟨g,cap,cur,off',h4,_,hgg,_⟩
 ·rw[hv] at h4;injection h4 with h4
  rw[hA] at h4; cases h4
 ·have h5:=h3 g (by rw[h4]; rfl);rw[hv] at h4;injection h4 with h4
  rw[hA] at h4;injection h4 with h4
  injection h4 with h4
  subst h4;exact⟨.inl h5,hgg.lt⟩
theorem OD {k z a b c n:Nat} {A:Option Addr} {χ:Col} {e:TypeId} {l:List (List PV)} (hz:0<z) (hown:Own (α:=CZ z) k χ e w (.slice A n c) l) (hab:a<=b) (hb:b<=l.length):Rd (fun b=>χ b=k\/χ b=0) w (.sl ((l.take b).drop a)) (svV A c a b z):=by
 obtain⟨A',c',hv,hs⟩:=hown.sl;injection hv with e1 e2 e3
 subst e1 e3;exact Rd.uK ((hs.take (k:=b) hb).drop (k:=a) hab) (.inl hz)
theorem Eb {o:Nat} {e:TypeId} {z:Nat} {l:List (List PV)} {v:Value} (hno:o∉σ.m.map (·.1)) (hmay:σ.may o) (h:Own (α:=CZ z) (o+2) G.χ e w v l):Rd (In (eB σ G).χ 0) w (.sl l) v:=by
 refine Rd.frame (fun b hb _=>⟨?_,rfl⟩) (CI h);rcases hb with hb | hb
 ·exact pN hno hmay hb
 ·exact jj hb
theorem vd {x:aJ} {p:PV} {v:Value} (ho:∀ o h,s.hp o=some h->HRd G s.hp w o h) (h:LRd G s.hp w x v) (hs:ky σ s x p):Rd (In (eB σ G).χ 0) w p v:=by
 have hv:=h.val;unfold ky at hs;split at hs
 ·subst hs; exact Rd.frame nv hv
 ·subst hs;rw[show v = .slice none 0 0 from hv];exact Rd.sl0 (fun _=>rfl) (by omega)
 ·rename_i o l;obtain⟨ho',hno,hmay⟩:=hs;split at ho'
  ·rename_i e z l2 heq;subst ho';rw[show v=G.hv o from hv];exact Eb hno hmay (ho o _ heq).1
  ·exact ho'.elim
 ·rename_i o k m;obtain⟨ho',hno,hmay⟩:=hs;split at ho'
  ·rename_i k2 e z m2 heq;obtain⟨rfl,rfl⟩:=ho';obtain⟨es,clock,mv,h1,h2,h3,h4,h5⟩:=ho o _ heq;rw[show v = .map (some (G.bl o)) from hv];exact .mp mv (pN hno hmay h2) h1 h3 fun i x y hx hy=>Eb hno hmay (h4 i x y hx hy (by simp))
  ·exact ho'.elim
 ·exact hs.elim
theorem xB (ho:∀ o h,s.hp o=some h->HRd G s.hp w o h):∀ {xs:List aJ} {cs:List PV} {vs:List Value},eu (LRd G s.hp w) xs vs->kJ σ s xs cs->∀ (j:Nat) p,cs[j]?=some p->∃ u,vs[j]?=some u/\Rd (In (eB σ G).χ 0) w p u
 | [],[],vs,h,_,j,p,hp=>by simp at hp
 | [],_::_,_,_,h,_,_,_=>h.elim
 | _::_,[],_,_,h,_,_,_=>h.elim
 | x::xs,y::ys,vs,h,hs,j,p,hp=>by
  cases vs with
  | nil=>have:=h.1; simp at this
  | cons v vs =>
   cases j with
   | zero=>simp at hp; subst hp; exact⟨v,rfl,vd ho (h.2 0 _ _ rfl rfl) hs.1⟩
   | succ j=>exact xB ho (xs:=xs) (cs:=ys) (vs:=vs) ⟨by have:=h.1; simpa using this,fun i a b ha hb=>h.2 (i+1) a b (by simpa using ha) (by simpa using hb)⟩ hs.2 j p (by simpa using hp)
theorem Aw:∀ {xs:List aJ} {l:List (List PV)},vb σ s xs l->xs.length=l.length
 | [],[],_=>rfl
 | [],_::_,h=>h.elim
 | _::_,[],h=>h.elim
 | _::xs,_::l,h=>by rw[List.length_cons,List.length_cons,Aw h.2]
theorem Ec (ho:∀ o h,s.hp o=some h->HRd G s.hp w o h):∀ {xs:List aJ} {l:List (List PV)} {vs:List Value},eu (LRd G s.hp w) xs vs->vb σ s xs l->∀ (j:Nat) row,l[j]?=some row->∃ u,vs[j]?=some u/\u.oneCell'=true/\∃ p,row=[p]/\Rd (In (eB σ G).χ 0) w p u
 | [],[],vs,h,_,j,p,hp=>by simp at hp
 | [],_::_,_,_,h,_,_,_=>h.elim
 | _::_,[],_,_,h,_,_,_=>h.elim
 | x::xs,y::ys,vs,h,hs,j,p,hp=>by
  cases vs with
  | nil=>have:=h.1; simp at this
  | cons v vs =>
   cases j with
   | zero =>
    simp at hp; subst hp
    obtain⟨h1,_⟩:=hs;split at h1
    ·have hx:=h.2 0 _ _ rfl rfl;exact⟨v,rfl,hx.one,_,rfl,vd ho hx h1⟩
    ·exact h1.elim
   | succ j=>exact Ec ho (xs:=xs) (l:=ys) (vs:=vs) ⟨by have:=h.1; simpa using this,fun i a b ha hb=>h.2 (i+1) a b (by simpa using ha) (by simpa using hb)⟩ hs.2 j p (by simpa using hp)
theorem Na {o:Nat} {e:TypeId} {cs:List aJ} {l:List (List PV)} (ho:∀ o h,s.hp o=some h->HRd G s.hp w o h) (hb:s.hp o=some (.lit e cs)) (hl:vb σ s cs l) (hno:o∉σ.m.map (·.1)) (hmay:σ.may o):Rd (In (eB σ G).χ 0) w (.sl l) (G.hv o):=by
 obtain⟨vs,h1,h2,h3,h4,h5⟩:=ho o _ hb;have hlen:=Aw hl;rw[h4,hlen];have hcol:=pN hno hmay h2;refine Rd.uK (z:=1) ⟨rfl,Nat.le_refl _,by first | omega | (simp only[maxLen]; omega) | (unfold maxLen; omega),by simp,fun hpos=>⟨G.bl o,0,rfl,fun i row hi=>?_⟩⟩ (.inl (by omega));obtain⟨u,hu,hone,p,rfl,hr⟩:=Ec ho h3 hl i row hi;refine⟨[u],⟨rfl,?_⟩,fun j v hv=>?_⟩
 ·refine⟨by simp,fun j q v h6 h7=>?_⟩;cases j with
  | zero=>simp at h6 h7; subst h6 h7; exact hr
  | succ j=>simp at h6
 ·cases j with
  | zero =>
   simp at hv;subst hv;refine⟨hcol,?_⟩;have h8:w.cell? ⟨G.bl o,0+(i * 1+0),none⟩=some u:=by
    rw[Nat.zero_add,Nat.add_zero,Nat.mul_one,h1.cell]; simpa using hu
   simpa [aN.sz] using h8
  | succ j=>simp at hv
theorem Ed {x y:aJ} {v:Value} (hσ:σ.nodup) (ho:∀ o h,s.hp o=some h->HRd G s.hp w o h) (h:LRd G s.hp w x v) (hs:nu σ s hps x y):LRd (eB σ G) (fun o=>aq hps o) w y v:=by
 have hv:=h.val;unfold nu at hs;split at hs
 ·exact⟨h.one,by simp [aJ.ids],trivial⟩
 ·subst hs;exact⟨h.one,by simp [aJ.ids],Rd.frame nv hv⟩
 ·exact⟨h.one,by simp [aJ.ids],hv⟩
 ·subst hs;refine⟨h.one,by simp [aJ.ids],?_⟩;rw[show v = .slice none 0 0 from hv];exact Rd.sl0 (fun _=>rfl) (by omega)
 ·rename_i o l;obtain⟨ho',hno,hmay⟩:=hs;split at ho'
  ·rename_i e z l2 heq;subst ho';refine⟨h.one,by simp [aJ.ids],?_⟩;rw[show v=G.hv o from hv];refine Rd.frame (fun b hb _=>⟨?_,rfl⟩) (CI (ho o _ heq).1);rcases hb with hb | hb
   ·exact pN hno hmay hb
   ·exact jj hb
  ·rename_i e cs heq;refine⟨h.one,by simp [aJ.ids],?_⟩;rw[show v=G.hv o from hv];exact Na ho heq ho' hno hmay
  ·exact ho'.elim
 ·rename_i o a b z l;obtain⟨hzp,ho',hno,hmay⟩:=hs;split at ho'
  ·rename_i e z' l2 heq;obtain⟨rfl,hbl,rfl⟩:=ho';refine⟨h.one,by simp [aJ.ids],?_⟩;obtain⟨A,n,c,h1,h2,h3,h4,h5⟩:=hv;have hown:=(ho o _ heq).1;have hfr:∀ b,(G.χ b=o+2\/G.χ b=0)->b<w.heap.size->In (eB σ G).χ 0 b/\w.heap[b]?=w.heap[b]? := fun b hb _=>⟨by
    rcases hb with hb | hb
    ·exact pN hno hmay hb
    ·exact jj hb,rfl⟩
   rw[h1] at hown;rw[h5];exact Rd.frame hfr (OD hzp hown h2 hbl)
  ·exact ho'.elim
 ·rename_i o o2;refine⟨h.one,fun j hj=>?_,?_⟩
  ·simp [aJ.ids] at hj; subst hj; exact hs.2
  ·show v=(eB σ G).hv o2;rw[pb hσ hs.1]; exact hv
 ·rename_i o a b z o2 a2 b2 z2;obtain⟨⟨g1,g2⟩,rfl,rfl,rfl⟩:=hs;refine⟨h.one,fun j hj=>?_,?_⟩
  ·simp [aJ.ids] at hj; subst hj; exact g2
  ·obtain⟨A,n,c,h1,h2⟩:=hv;exact⟨A,n,c,by rw[pb hσ g1]; exact h1,h2⟩
 ·rename_i o2;refine⟨h.one,fun j hj=>?_,?_⟩
  ·simp [aJ.ids] at hj; subst hj; exact hs.2.1
  ·show v=(eB σ G).hv o2;rw[Ea hs.1 hs.2.2]; exact hv
 ·rename_i o f o2 f2;obtain⟨⟨h1,h2⟩,rfl⟩:=hs;refine⟨h.one,fun j hj=>?_,?_⟩
  ·simp [aJ.ids] at hj; subst hj; exact h2
  ·show v=ptr ((eB σ G).bl o2) f;rw[gO hσ h1]; exact hv
 ·rename_i o i f z o2 i2 f2 z2;obtain⟨⟨h1,h2⟩,rfl,rfl,rfl⟩:=hs;refine⟨h.one,fun j hj=>?_,?_⟩
  ·simp [aJ.ids] at hj; subst hj; exact h2
  ·show v=ptr ((eB σ G).bl o2) (mu ((eB σ G).hv o2)+_);rw[gO hσ h1,pb hσ h1]; exact hv
 ·obtain⟨rfl,rfl⟩:=hs;obtain⟨b,off0,h1,h2,h3,h4⟩:=hv;exact⟨h.one,by simp [aJ.ids],b,off0,h1,jj h2,h3,fun j p hj=>by
   obtain⟨u,hu,hr⟩:=h4 j p hj;exact⟨u,hu,Rd.frame nv hr⟩⟩
 ·obtain⟨rfl,hcs⟩:=hs;obtain⟨h1,h2⟩:=vc (G:=G) hσ hcs;refine⟨h.one,h1,?_⟩;have hv':v=_:=hv;rw[LVal,hv',h2]
 ·rename_i o o2;refine⟨h.one,fun j hj=>?_,?_⟩
  ·simp [aJ.ids] at hj; subst hj; exact hs.2
  ·show v = .map (some ((eB σ G).bl o2));rw[gO hσ hs.1]; exact hv
 ·obtain⟨rfl,rfl⟩:=hs;exact⟨h.one,by simp [aJ.ids],hv⟩
 ·rename_i o o2;refine⟨h.one,fun j hj=>?_,?_⟩
  ·simp [aJ.ids] at hj; subst hj; exact hs.2
  ·show v = .pointer none\/v=ptr ((eB σ G).bl o2) 0;rw[gO hσ hs.1]; exact hv
 ·rename_i o f o2;obtain⟨⟨h1,h2⟩,rfl⟩:=hs;refine⟨h.one,fun j hj=>?_,?_⟩
  ·simp [aJ.ids] at hj; subst hj; exact h2
  ·show v = .pointer none\/v=ptr ((eB σ G).bl o2) 0;rw[gO hσ h1]; exact .inr hv
 ·rename_i o2;refine⟨h.one,fun j hj=>?_,?_⟩
  ·simp [aJ.ids] at hj; subst hj; exact hs
  ·have hv:Rd (In G.χ 0) w (.oth (.pointer none)) v:=hv;cases hv;exact .inl rfl
 ·subst hs;exact⟨h.one,by simp [aJ.ids],Rd.frame nv hv.1,hv.2⟩
 ·subst hs;exact⟨h.one,by simp [aJ.ids],Rd.frame nv hv.1⟩
 ·exact⟨h.one,by simp [aJ.ids],vd ho h hs⟩
 ·rename_i o f cs f2;obtain⟨rfl,hb,hno,hmay⟩:=hs;split at hb
  ·rename_i t xs heq;obtain⟨vs,h1,h2,h3⟩:=ho o _ heq;refine⟨h.one,by simp [aJ.ids],G.bl o,0,by rw[Nat.zero_add]; exact hv,pN hno hmay h2,h1.lt,fun j p hj=>?_⟩;obtain⟨u,hu,hr⟩:=xB ho h3 hb j p hj;exact⟨u,by rw[Nat.zero_add,h1.cell]; simpa using hu,hr⟩
  ·exact hb.elim
 ·exact hs.elim
theorem rl (hσ:σ.nodup) (ho:∀ o h,s.hp o=some h->HRd G s.hp w o h):∀ {xs ys:List aJ} {vs:List Value},eu (LRd G s.hp w) xs vs->kz σ s hps xs ys->eu (LRd (eB σ G) (fun o=>aq hps o) w) ys vs
 | [],[],vs,h,_=>⟨by simpa using h.1,by simp⟩
 | [],_::_,_,_,h=>h.elim
 | _::_,[],_,_,h=>h.elim
 | x::xs,y::ys,vs,h,hs=>by
  cases vs with
  | nil=>have:=h.1; simp at this
  | cons v vs =>
   have ih:=rl hσ ho (xs:=xs) (ys:=ys) (vs:=vs) ⟨by have:=h.1; simpa using this,fun i a b ha hb=>h.2 (i+1) a b (by simpa using ha) (by simpa using hb)⟩ hs.2;refine⟨by simp [ih.1],fun i a b ha hb=>?_⟩;cases i with
   | zero=>simp at ha hb; subst ha hb; exact Ed hσ ho (h.2 0 _ _ rfl rfl) hs.1
   | succ i=>exact ih.2 i a b (by simpa using ha) (by simpa using hb)
theorem yM (hσ:σ.nodup) (ho:∀ o h,s.hp o=some h->HRd G s.hp w o h) {x y:Cmp} {v:Value} (h:CRd G s.hp w x v) (hs:sF σ s hps x y):CRd (eB σ G) (fun o=>aq hps o) w y v:=by
 unfold sF at hs;split at hs
 ·exact Ed hσ ho h hs
 ·obtain⟨vs,h1,h2⟩:=h;exact⟨vs,h1,rl hσ ho h2 hs⟩
 ·exact hs.elim
theorem Ax (hσ:σ.nodup) (ho:∀ o h,s.hp o=some h->HRd G s.hp w o h):∀ {xs ys:List Cmp} {vs:List Value},eu (CRd G s.hp w) xs vs->qv σ s hps xs ys->eu (CRd (eB σ G) (fun o=>aq hps o) w) ys vs
 | [],[],vs,h,_=>⟨by simpa using h.1,by simp⟩
 | [],_::_,_,_,h=>h.elim
 | _::_,[],_,_,h=>h.elim
 | x::xs,y::ys,vs,h,hs=>by
  cases vs with
  | nil=>have:=h.1; simp at this
  | cons v vs =>
   have ih:=Ax hσ ho (xs:=xs) (ys:=ys) (vs:=vs) ⟨by have:=h.1; simpa using this,fun i a b ha hb=>h.2 (i+1) a b (by simpa using ha) (by simpa using hb)⟩ hs.2;refine⟨by simp [ih.1],fun i a b ha hb=>?_⟩;cases i with
   | zero=>simp at ha hb; subst ha hb; exact yM hσ ho (h.2 0 _ _ rfl rfl) hs.1
   | succ i=>exact ih.2 i a b (by simpa using ha) (by simpa using hb)
theorem Ee (hσ:σ.nodup) (ho:∀ o h,s.hp o=some h->HRd G s.hp w o h) {x y:Slot} {v:Value} (h:SRd G s.hp w x v) (hs:o9 σ s hps x y):SRd (eB σ G) (fun o=>aq hps o) w y v:=by
 unfold o9 at hs;split at hs
 ·trivial
 ·exact yM hσ ho h hs
 ·obtain⟨vs,h1,h2⟩:=h;exact⟨vs,h1,Ax hσ ho h2 hs⟩
 ·exact hs.elim
theorem yN (hσ:σ.nodup) (hr:∀ o h,s.hp o=some h->HRd G s.hp w o h) {q:Nat×df} (hm:HSub σ s hps q):HRd (eB σ G) (fun o=>aq hps o) w q.1 q.2:=by
 obtain⟨o2,h2⟩:=q;unfold HSub at hm;split at hm
 ·rename_i o hl;have hmem:(o,o2)∈σ.m:=by
   obtain⟨x,hx,he⟩:=List.mem_map.1 (dD hl);injection he with e1 e2
   cases x; simp only at e1 e2; subst e1 e2; exact hx
  unfold yL at hm;split at hm
  ·rename_i heq;dsimp only at heq;subst heq;trivial
  ·rename_i t cs t2 cs2 ho' heq;dsimp only at heq;subst heq;obtain⟨rfl,hcs⟩:=hm;obtain⟨vs,h1,h2,h3⟩:=hr o _ ho';show HRd (eB σ G) _ w o2 (.box t cs2);refine⟨vs,?_,?_,rl hσ hr h3 hcs⟩
   ·rw[gO hσ hmem]; exact h1
   ·rw[gO hσ hmem]; exact mb hσ hmem h2
  ·rename_i e z l e2 z2 l2 ho' heq;dsimp only at heq;subst heq;obtain⟨rfl,rfl,rfl⟩:=hm;obtain⟨h1,h2⟩:=hr o _ ho';show HRd (eB σ G) _ w o2 (.arr e z l);refine⟨?_,?_⟩
   ·rw[pb hσ hmem];exact h1.o8 (fun g _ _ hk=>mb hσ hmem hk) (.inl fun b _ hb=>jj hb)
   ·rw[pb hσ hmem,gO hσ hmem]; exact h2
  ·rename_i k g m k2 g2 m2 ho' heq;dsimp only at heq;subst heq;obtain⟨rfl,rfl,rfl⟩:=hm;obtain⟨es,clock,h1,h2,h3⟩:=hr o _ ho';show HRd (eB σ G) _ w o2 (.fO k g m);refine⟨es,clock,?_,?_,h3⟩
   ·rw[gO hσ hmem]; exact h1
   ·rw[gO hσ hmem]; exact mb hσ hmem h2
  ·rename_i g m g2 m2 ho' heq;dsimp only at heq;subst heq;obtain⟨rfl,rfl⟩:=hm;obtain⟨es,clock,mv,h1,h2,h3⟩:=hr o _ ho';show HRd (eB σ G) _ w o2 (.fa g m);refine⟨es,clock,mv,?_,?_,h3.frame fun b hb _=>⟨jj hb,rfl⟩⟩
   ·rw[gO hσ hmem]; exact h1
   ·rw[gO hσ hmem]; exact mb hσ hmem h2
  ·rename_i k g m k2 g2 m2 ho' heq;dsimp only at heq;subst heq;obtain⟨rfl,rfl,rfl⟩:=hm;obtain⟨es,clock,h1,h2,h3⟩:=hr o _ ho';show HRd (eB σ G) _ w o2 (.fb k g m);refine⟨es,clock,?_,?_,h3⟩
   ·rw[gO hσ hmem]; exact h1
   ·rw[gO hσ hmem]; exact mb hσ hmem h2
  ·rename_i k g m key d k2 g2 m2 key2 d2 ho' heq;dsimp only at heq;subst heq;obtain⟨rfl,rfl,rfl,rfl,hmd,hd2⟩:=hm;obtain⟨es,clock,h1,h2,h3,h4,i,e',h5,h6,h7⟩:=hr o _ ho';show HRd (eB σ G) _ w o2 (.ql k g m key d2);refine⟨es,clock,?_,?_,h3,hd2,i,e',h5,h6,?_⟩
   ·rw[gO hσ hmem]; exact h1
   ·rw[gO hσ hmem]; exact mb hσ hmem h2
   ·rw[pb hσ hmd]; exact h7
  ·rename_i k e z m h k2 e2 z2 m2 h2 ho' heq;dsimp only at heq;subst heq;obtain⟨rfl,rfl,rfl,rfl,rfl⟩:=hm;obtain⟨es,clock,mv,h1,h2,h3,h4,h5⟩:=hr o _ ho';show HRd (eB σ G) _ w o2 (.kV k e z m h);refine⟨es,clock,mv,?_,?_,h3,fun i x y hx hy hh=>?_,h5⟩
   ·rw[gO hσ hmem]; exact h1
   ·rw[gO hσ hmem]; exact mb hσ hmem h2
   ·exact (h4 i x y hx hy hh).o8 (fun g _ _ hk=>mb hσ hmem hk) (.inl fun b _ hb=>jj hb)
  ·rename_i e cs e2 cs2 ho' heq;dsimp only at heq;subst heq;obtain⟨rfl,hcs⟩:=hm;obtain⟨vs,h1,h2,h3,h4,h5⟩:=hr o _ ho';show HRd (eB σ G) _ w o2 (.lit e cs2);have h6:=rl hσ hr h3 hcs;have hlen:cs2.length=cs.length:=h6.1.trans h3.1.symm;refine⟨vs,?_,?_,h6,?_,by rw[hlen]; exact h5⟩
   ·rw[gO hσ hmem]; exact h1
   ·rw[gO hσ hmem]; exact mb hσ hmem h2
   ·rw[pb hσ hmem,gO hσ hmem,hlen]; exact h4
  ·exact hm.elim
 ·rename_i hl;rcases hm with hm | hm
  rotate_left
  ·dsimp only at hm;subst hm;trivial
  obtain⟨hm,hlow⟩:=hm;unfold Av at hm;split at hm
  ·rename_i e z l heq;dsimp only at heq;subst heq hm;have hno:o2∉σ.m.map (·.2):=fun hin=>by
    obtain⟨x,hx,he⟩:=List.mem_map.1 hin;have:=(pa hσ (o:=x.1) (o2:=o2) (by rw[← he]; exact hx)).2;rw[this] at hl; cases hl
   have hv:(eB σ G).hv o2 = .slice none 0 0:=Ea hno hlow;show HRd (eB σ G) _ w o2 (.arr e z []);refine⟨?_,?_⟩
   ·rw[hv]; exact Own.nil _ _ _ _
   ·rw[hv]; simp [Value.ownBlock]
  ·exact hm.elim
theorem Kp (hχ:∀ b,χ0 b<=1) (h:Sub σ s tms hps) (r:cI w0 χ0 T0 s a w G):cI w0 χ0 T0 (qH tms hps) a w (eB σ G):=by
 obtain⟨⟨hσ,hv0,hp0,hpins⟩,ht,hh⟩:=h;refine⟨r.os,r.tape,r.output,r.size,r.old,fun b hb hT=>?_,fun b hb=>?_,fun o2 ho2=>?_,fun b hb=>jj (r.norm b hb),r.defers.step (Nat.le_refl _) (fun b _ h1=>⟨(if_pos (by omega)).trans h1,rfl⟩),fun t=>?_,fun o2 h2 ho=>?_,r.Cw⟩
 ·have h1:=r.col b hb hT;show (if G.χ b<=1 then G.χ b else _)=χ0 b;rw[if_pos (by rw[h1]; exact hχ b)]; exact h1
 ·exact r.own b (CH hb).1
 ·have key:∀ o,aq (σ.m.map fun x=>(x.2,x.1)) o2=some o->o=o2:=fun o hl=>by
   obtain⟨x,hx,he⟩:=List.mem_map.1 (dD hl);injection he with e1 e2
   have:=fv hpins x hx (by omega);omega
  constructor
  ·show (match aq (σ.m.map fun x=>(x.2,x.1)) o2 with | some o=>G.bl o | none=>if σ.pin=true/\1000000<=o2 then G.bl o2 else 0)=_;cases hl:aq (σ.m.map fun x=>(x.2,x.1)) o2 with
   | some o=>rw[key o hl]; exact (r.pin o2 ho2).1
   | none=>exact (if_pos ⟨hp0,ho2⟩).trans (r.pin o2 ho2).1
  ·show (match aq (σ.m.map fun x=>(x.2,x.1)) o2 with | some o=>G.hv o | none=>if σ.pin=true/\1000000<=o2 then G.hv o2 else .slice none 0 0)=_;cases hl:aq (σ.m.map fun x=>(x.2,x.1)) o2 with
   | some o=>rw[key o hl]; exact (r.pin o2 ho2).2
   | none=>exact (if_pos ⟨hp0,ho2⟩).trans (r.pin o2 ho2).2
 ·show SRd (eB σ G) (fun o=>aq hps o) w ((aq tms t).getD .dead) _;cases hl:aq tms t with
  | none=>trivial
  | some y=>exact Ee hσ r.iA (r.tms t) (fv ht _ (dD hl))
 ·exact yN (q:=(o2,h2)) hσ r.iA (fv hh _ (dD (show aq hps o2=some h2 from ho)))
theorem yO (hχ:∀ b,χ0 b<=1) (h:Sub σ s tms hps) (ha:bG w0 χ0 T0 n s a w):bG w0 χ0 T0 n (qH tms hps) a w:=by
 obtain⟨hn,G,r⟩:=ha;exact⟨hn,_,Kp hχ h r⟩
end
end Go.Lad
